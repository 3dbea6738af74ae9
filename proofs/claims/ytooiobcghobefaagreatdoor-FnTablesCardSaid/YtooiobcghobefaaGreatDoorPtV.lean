/-
  Walks of a word's value, in the program and in the reference.
  Conditions: as each theorem says.
-/
import Derived.Test.YtooiobcghobefaaGreatDoorPtP
import Derived.Test.YtooiobcghobefaaGreatDoorItaI
namespace Go.Proofs.YtooiobcghobefaaGreatDoor
open Go.RowKit Go.Lib
set_option linter.unusedVariables false

theorem str_nullL (X : World) (s : List UInt8) (t : TypeId) : (binOp .eql t (str s) (.string ⟨#[110, 117, 108, 108]⟩)).run Tryz.prog X = .ok (.bool (s == nullL)) X := by
  have h := str_eql t s nullL
  rw [show str nullL = .string ⟨#[110, 117, 108, 108]⟩ from rfl] at h
  rw [h]; rfl
/-- What the program's parseValue answers. -/
def pvV (s : List UInt8) : Value := .tuple #[.int .i64 (if okB s = true then ptVal s else 0), .bool (okB s)]
theorem pvV_yes {s : List UInt8} {x : Int} (h : okB s = true) (hx : ptVal s = x) : pvV s = .tuple #[.int .i64 x, .bool true] := by unfold pvV; rw [h, if_pos rfl, hx]
theorem pvV_no {s : List UInt8} (h : okB s = false) : pvV s = .tuple #[.int .i64 0, .bool false] := by unfold pvV; rw [h, if_neg (by simp)]
set_option maxHeartbeats 1600000 in
set_option maxRecDepth 100000 in
theorem implVal (s : List UInt8) (w : World) (hl : s.length ≤ 1048576) (ht : Tabs w) (he : Errs w) : Calls Tryz.prog 26 #[str s] w (RetVal w (pvV s)) := by
  have hI := hide (implParI s w hl ht he)
  have hs := fun X => str_nullL X s 9
  replace ht := hide ht
  replace he := hide he
  rcases h1 : (s == nullL) with _ | _
  · rcases h2 : parG s with _ | _
    · have hp := hide (pvV_no (okB_bad (ptVal_bad h1 h2)))
      rw [h1] at hs
      have hv := hide (show parV s = .tuple #[.int .i64 (parN s), .bool false] by unfold parV; rw [h2])
      replace h1 := hide h1; replace h2 := hide h2
      go_enter Tryz.func26, Tryz.ntmps26
      go_wp2_with fail
      refine hI.out.mono ?_
      rintro e w1 ⟨rfl, hb⟩
      rw [hv.out]
      go_wp2_with fail
      refine bodyPost_ret (v := .tuple #[.int .i64 0, .bool false]) (by simp [results, Tryz.results26, go_sem]) rfl ?_
      exact ⟨by rw [hp.out], hb⟩
    · have hv := hide (show parV s = .tuple #[.int .i64 (parN s), .bool true] by unfold parV; rw [h2])
      by_cases h0 : parN s < 0
      · have hp := hide (pvV_no (okB_bad (ptVal_neg h1 h0)))
        rw [h1] at hs
        have d : decide (parN s < 0) = true := by simpa using h0
        replace h1 := hide h1; replace h2 := hide h2
        go_enter Tryz.func26, Tryz.ntmps26
        go_wp2_with fail
        refine hI.out.mono ?_
        rintro e w1 ⟨rfl, hb⟩
        rw [hv.out]
        go_wp2_with fail
        refine bodyPost_ret (v := .tuple #[.int .i64 0, .bool false]) (by simp [results, Tryz.results26, go_sem]) rfl ?_
        exact ⟨by rw [hp.out], hb⟩
      · have hn := ptVal_num h1 h2 (by omega)
        rw [h1] at hs
        have d : decide (parN s < 0) = false := by simpa using h0
        by_cases h4 : 40 < parN s
        · have hp := hide (pvV_no (okB_big (s := s) (by omega)))
          have d2 : decide (40 < parN s) = true := by simpa using h4
          replace h1 := hide h1; replace h2 := hide h2; replace hn := hide hn
          go_enter Tryz.func26, Tryz.ntmps26
          go_wp2_with fail
          refine hI.out.mono ?_
          rintro e w1 ⟨rfl, hb⟩
          rw [hv.out]
          go_wp2_with fail
          refine bodyPost_ret (v := .tuple #[.int .i64 0, .bool false]) (by simp [results, Tryz.results26, go_sem]) rfl ?_
          exact ⟨by rw [hp.out], hb⟩
        · have hp := hide (pvV_yes (okB_num (s := s) (by omega) (by omega)) hn)
          have d2 : decide (40 < parN s) = false := by simpa using h4
          replace h1 := hide h1; replace h2 := hide h2; replace hn := hide hn
          go_enter Tryz.func26, Tryz.ntmps26
          go_wp2_with fail
          refine hI.out.mono ?_
          rintro e w1 ⟨rfl, hb⟩
          rw [hv.out]
          go_wp2_with fail
          refine bodyPost_ret (v := .tuple #[.int .i64 (parN s), .bool true]) (by simp [results, Tryz.results26, go_sem]) rfl ?_
          exact ⟨by rw [hp.out], hb⟩
  · have hp := hide (pvV_yes (okB_null (ptVal_null h1)) (ptVal_null h1))
    rw [h1] at hs
    replace h1 := hide h1
    go_enter Tryz.func26, Tryz.ntmps26
    go_wp2_with fail
    refine bodyPost_ret (v := .tuple #[.int .i64 (-1), .bool true]) (by simp [results, Tryz.results26, go_sem]) rfl ?_
    exact ⟨by rw [hp.out], Below.refl _ _⟩
end Go.Proofs.YtooiobcghobefaaGreatDoor
