/-
  The program's FormatInt and ParseInt, by the library's contracts.
  Conditions: as each theorem says.
-/
import Derived.Test.YtooiobcghobefaaGreatDoorItaS2
import Derived.Test.YtooiobcghobefaaGreatDoorMet
import Derived.Test.YtooiobcghobefaaGreatDoorShelf
import Derived.Lib.AtoiAll
namespace Go.Proofs.YtooiobcghobefaaGreatDoor
open Go.RowKit Go.Lib
set_option linter.unusedVariables false

set_option maxRecDepth 100000 in
theorem libItoa (n : Int) (w : World) (h0 : -9223372036854775808 ≤ n) (h1 : n ≤ 9223372036854775807) (ht : Tabs w) : Calls Tryz.prog 66 #[.int .i64 n] w (RetVal w (str (itoa n))) :=
  (Tryz.strconv_Itoa n h0 h1 w ht).mono fun e w' ⟨he, k, os, hw⟩ => ⟨he, hw ▸ below_os w k os⟩
set_option maxRecDepth 100000 in
theorem implItoa (n : Int) (w : World) (h0 : -9223372036854775808 ≤ n) (h1 : n ≤ 9223372036854775807) (ht : Tabs w) : Calls Tryz.prog 50 #[.int .i64 n] w (RetVal w (str (itoa n))) := by
  have hc := hide (libItoa n w h0 h1 ht)
  clear h0 h1 ht
  go_enter Tryz.func50, Tryz.ntmps50
  go_wp2_with fail
  refine hc.out.mono ?_
  rintro e w1 ⟨rfl, hb⟩
  go_wp2_with fail
  go_ret
  exact ⟨rfl, hb⟩
/-- How the library's Atoi ends. -/
def AtoiEnd (l : List UInt8) (w : World) (e : Ending) (w' : World) : Prop :=
  ((∃ v, atoiAll l = .ok v ∧ e = .returned (.tuple #[.int .i64 v, .nilIface])) ∨ ((∀ v, atoiAll l ≠ .ok v) ∧ ∃ m t p, e = .returned (.tuple #[.int .i64 m, .iface t (.pointer (some p))]))) ∧ Below w.heap.size w w'
theorem libAtoi (l : List UInt8) (w : World) (hl : l.length ≤ 2000000) (he : Errs w) : Calls Tryz.prog 72 #[str l] w (AtoiEnd l w) := by
  obtain ⟨⟨t, p, h1⟩, t', p', h2⟩ := he
  have hs : (⟨l.toArray⟩ : ByteArray).size = l.length := size_str l
  have hd : (⟨l.toArray⟩ : ByteArray).data.toList = l := by simp
  rcases h : atoiAll l with v | _ | _
  · refine (Tryz.strconv_Atoi_ok ⟨l.toArray⟩ (by rw [hs]; omega) v (by rw [hd]; exact h) w).mono fun e w' ⟨h3, h4⟩ => ⟨.inl ⟨v, h, h3⟩, ?_⟩
    rcases h4 with rfl | ⟨q, rfl⟩
    · exact Below.refl _ _
    · exact Lib.bytesWorld_below _ _ _
  · refine (Any.strconv_Atoi_syntax_var Tryz.laysC172 ⟨l.toArray⟩ (by rw [hs]; omega) (by rw [hd]; exact h) t p w h1).mono fun e w' ⟨N, h3, _, _, h4⟩ => ⟨.inr ⟨fun v hv => (by rw [h] at hv; cases hv), _, _, _, h3⟩, h4⟩
  · refine (Tryz.strconv_Atoi_range_var ⟨l.toArray⟩ (by rw [hs]; omega) (by rw [hd]; exact h) t' p' w h2).mono fun e w' ⟨N, h3, _, _, h4⟩ => ⟨.inr ⟨fun v hv => (by rw [h] at hv; cases hv), _, _, _, h3⟩, h4⟩
set_option maxHeartbeats 800000 in
set_option maxRecDepth 100000 in
theorem implParI (s : List UInt8) (w : World) (hl : s.length ≤ 1048576) (ht : Tabs w) (he : Errs w) : Calls Tryz.prog 55 #[str s] w (RetVal w (parV s)) := by
  have hA := hide (libAtoi s w (by omega) he)
  clear he
  replace ht := hide ht
  go_enter Tryz.func55, Tryz.ntmps55
  go_wp2_with fail
  refine hA.out.mono ?_
  rintro e w1 ⟨(⟨v, hv, rfl⟩ | ⟨hno, m, t, p, rfl⟩), hb⟩
  · obtain ⟨h1, h2⟩ := impl_ok hv
    obtain ⟨v0, v1⟩ := atoiAll_bounds hv
    have hF := hide (implItoa v w1 (by omega) (by omega) (ht.out.below hb))
    have hret : ∀ (g : Bool) (x : Int), parG s = g → x = (if g then v else 0) → parV s = .tuple #[.int .i64 x, .bool g] := fun g x k1 k2 => by
      unfold parV parN
      rw [k1, k2]
      cases g
      · rfl
      · rw [if_pos rfl, if_pos rfl, h2 k1]
    clear h2 v0 v1
    replace hv := hide hv
    rcases ce : (itoa v == s) with _ | _
    · have hp := hret false 0 (by rw [← h1, ce]; simp) rfl
      replace hp := hide hp; replace hret := hide hret; replace h1 := hide h1
      go_wp2_with (go_at_call 50; refine hF.out.mono ?_; rintro e w2 ⟨rfl, hb2⟩)
      refine bodyPost_ret (v := .tuple #[.int .i64 0, .bool false]) (by simp [results, Tryz.results55, go_sem]) rfl ?_
      exact ⟨by rw [hp.out], below_call hb hb2⟩
    · by_cases c1 : v < -999999999
      · have z1 : decide (v < -999999999) = true := by simpa using c1
        have hp := hret false 0 (by rw [← h1, ce]; unfold inP; simp; omega) rfl
        replace hp := hide hp; replace hret := hide hret; replace h1 := hide h1
        go_wp2_with (go_at_call 50; refine hF.out.mono ?_; rintro e w2 ⟨rfl, hb2⟩)
        refine bodyPost_ret (v := .tuple #[.int .i64 0, .bool false]) (by simp [results, Tryz.results55, go_sem]) rfl ?_
        exact ⟨by rw [hp.out], below_call hb hb2⟩
      · by_cases c2 : 999999999 < v
        · have z1 : decide (v < -999999999) = false := by simpa using c1
          have z2 : decide (999999999 < v) = true := by simpa using c2
          have hp := hret false 0 (by rw [← h1, ce]; unfold inP; simp; omega) rfl
          replace hp := hide hp; replace hret := hide hret; replace h1 := hide h1
          go_wp2_with (go_at_call 50; refine hF.out.mono ?_; rintro e w2 ⟨rfl, hb2⟩)
          refine bodyPost_ret (v := .tuple #[.int .i64 0, .bool false]) (by simp [results, Tryz.results55, go_sem]) rfl ?_
          exact ⟨by rw [hp.out], below_call hb hb2⟩
        · have z1 : decide (v < -999999999) = false := by simpa using c1
          have z2 : decide (999999999 < v) = false := by simpa using c2
          have hp := hret true v (by rw [← h1, ce]; unfold inP; simp; omega) rfl
          replace hp := hide hp; replace hret := hide hret; replace h1 := hide h1
          go_wp2_with (go_at_call 50; refine hF.out.mono ?_; rintro e w2 ⟨rfl, hb2⟩)
          refine bodyPost_ret (v := .tuple #[.int .i64 v, .bool true]) (by simp [results, Tryz.results55, go_sem]) rfl ?_
          exact ⟨by rw [hp.out], below_call hb hb2⟩
  · have hp := hide (show parV s = .tuple #[.int .i64 0, .bool false] by unfold parV parN; rw [impl_no hno]; rfl)
    replace hno := hide hno
    go_wp2_with fail
    refine bodyPost_ret (v := .tuple #[.int .i64 0, .bool false]) (by simp [results, Tryz.results55, go_sem]) rfl ?_
    exact ⟨by rw [hp.out], hb⟩
end Go.Proofs.YtooiobcghobefaaGreatDoor
