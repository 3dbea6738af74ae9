/-
  Walks of FormatAttributes and ParseAttributes, in the program and in the reference.
  Conditions: as each theorem says.
-/
import Derived.Test.YtooiobcghobefaaGreatDoorMem
namespace Go.Proofs.YtooiobcghobefaaGreatDoor
open Go.RowKit
set_option linter.unusedVariables false

theorem elemB : Elem Tryz.prog 22 5 (.int .u8 0) 1 := ⟨Tryz.underlying22, by kernel_rfl, rfl, by decide⟩

def letter (z : Int) : UInt8 := UInt8.ofNat (65 + z.toNat)
def letters (zs : List Int) : List UInt8 := zs.map letter
def noneL : List UInt8 := [110, 111, 110, 101]
/-- What FormatAttributes answers. -/
def fmtA (x : Int) : List UInt8 := if x = 0 then noneL else letters (memL x)
theorem fmtA_zero : fmtA 0 = noneL := if_pos rfl
theorem fmtA_pos {x : Int} (h : x ≠ 0) : fmtA x = letters (memL x) := if_neg h
theorem fmtA_bad {x : Int} (h : validB x = false) : fmtA x = [] := by
  rw [fmtA_pos, memL_no x h]; · rfl
  rintro rfl; revert h; decide
theorem letters_len (zs : List Int) : (letters zs).length = zs.length := by simp [letters]
theorem letter_cell (z : Int) (h : 0 ≤ z ∧ z ≤ 4) : bc (letter z) = .int .u8 (65 + z) := by
  unfold letter
  rw [bc_ofNat _ (by omega)]; congr 1; omega
def fmtPosB : Bool := (List.range 32).all fun x => (x == 0) || !(letters (memL (x : Int)) == [])
theorem fmtPosB_true : fmtPosB = true := by decide +kernel
theorem letters_pos (x : Int) (hv : validB x = true) (h : x ≠ 0) : (letters (memL x) == []) = false := by
  rw [validB_iff] at hv
  obtain ⟨n, rfl⟩ := Int.eq_ofNat_of_zero_le hv.1
  have h1 := fmtPosB_true
  unfold fmtPosB at h1
  have h2 := List.all_eq_true.1 h1 n (List.mem_range.2 (by omega))
  have h3 : (n == 0) = false := by rw [beq_eq_false_iff_ne]; omega
  rw [h3, Bool.false_or] at h2
  simpa using h2
theorem fmtA_ne (x : Int) (hv : validB x = true) : fmtA x ≠ [] := by
  by_cases h : x = 0
  · subst h; decide
  · rw [fmtA_pos h]; have := letters_pos x hv h; exact beq_eq_false_iff_ne.1 this
theorem fmtA_len (x : Int) : (fmtA x).length ≤ 5 := by
  unfold fmtA
  split
  · decide
  · rw [letters_len]; exact memL_len x

set_option maxHeartbeats 800000 in
set_option maxRecDepth 100000 in
theorem implFmt_pos (x : Int) (w : World) (h : x ≠ 0) : Calls Tryz.prog 22 #[.int .i64 x] w (RetVal w (str (letters (memL x)))) := by
  have d1 : (x == 0) = false := by rw [beq_eq_false_iff_ne]; exact h
  clear h
  have hml := memL_len x
  go_enter Tryz.func22, Tryz.ntmps22
  go_wp2_with fail
  refine (implMem _ _).mono ?_
  rintro e w1 ⟨A, n, c, rfl, hown, hb⟩
  have ln := hide (show (memL x).length = n by have := own_len hown; simpa using this)
  have hn : n ≤ 5 := by have := ln.out; omega
  have hb' := below_box hb
  have hs1 := hb'.size
  have hstart : w1.ownsRow w.heap.size 5 1 (.slice (some ⟨w.heap.size, 0, none⟩) 0 0) 0 [] := own_below (own_start w 5) hb
  replace hown := own_more (B' := w.heap.size) hown (by simp)
  clear hb
  go_wp2_with fail
  go_loopw [3, 5, 12] (fun l _ i wr => ∃ (k N c' : Nat) (A' : Option Addr), k ≤ n ∧ N ≤ k ∧ i = .int .i64 (k : Int) ∧ l = .slice A' N c' ∧ wr.ownsRow w.heap.size 5 1 (.slice A' N c') N ((letters ((memL x).take k)).map bc) ∧ wr.ownsRow w.heap.size 3 1 (.slice A n c) n ((memL x).map (Value.int .i64)) ∧ Below w.heap.size w wr) (fun _ _ i _ => n - (intOf i).toNat)
  case atStart => exact ⟨0, 0, _, _, by omega, by omega, rfl, rfl, hstart, hown, hb'⟩
  case round =>
    obtain ⟨k, N, c', A', hk, hNk, rfl, rfl, ho, hm, hb⟩ := hrel
    by_cases hlt : k < n
    · obtain ⟨b, o, z, hA, hbb, hx1, hc1⟩ := at_int (Reads.of_own hm) hlt
      subst hA
      have hz := memL_mem x z (List.mem_of_getElem? hx1)
      obtain ⟨hz0, hz4⟩ := hz
      have hcell := letter_cell z ⟨hz0, hz4⟩
      have htk : letters ((memL x).take (k + 1)) = letters ((memL x).take k) ++ [letter z] := by
        unfold letters
        rw [List.take_add_one, hx1]; simp
      replace hx1 := hide hx1
      replace hcell := hide hcell
      replace htk := hide htk
      go_wp2_with (at_builtin; refine wpList_push elemB rfl (.tmp 16) (.tmp 20) wr _ rfl w.heap.size (.slice A' N c') N _ rfl rfl ho rfl (by omega) hb.size ?_; intro A2 c2 w2 ho2 hg hat)
      have hm2 := hm.kept hg (own_types hm ho (by decide))
      have hs := own_snoc ho2 hcell.out
      clear ho2
      go_roundw
      case rel => exact ⟨k + 1, N + 1, c2, A2, by omega, by omega, by go_num, rfl, by rw [htk.out]; exact hs, hm2, below_push hb hb.size ho hg⟩
      case measure => simp [intOf]; omega
    · obtain rfl : k = n := by omega
      rw [List.take_of_length_le (by rw [ln.out]; exact Nat.le_refl _)] at ho
      go_wp2_with (with_reducible refine wpList_own_string (o := ⟨some 24, _, _, _, _, _⟩) rfl (.tmp 23) _ _ 5 rfl Tryz.underlying22 Tryz.underlying5 Tryz.underlying9 w.heap.size A' N c' _ rfl ho ?_)
      go_ret
      exact ⟨rfl, hb⟩
set_option maxRecDepth 100000 in
theorem implFmt_zero (w : World) : Calls Tryz.prog 22 #[.int .i64 0] w (RetVal w (str noneL)) := by
  go_enter Tryz.func22, Tryz.ntmps22
  go_wp2_with fail
  go_ret
  exact ⟨rfl, Below.refl _ _⟩
theorem implFmt (x : Int) (w : World) : Calls Tryz.prog 22 #[.int .i64 x] w (RetVal w (str (fmtA x))) := by
  by_cases h : x = 0
  · subst h; rw [fmtA_zero]; exact implFmt_zero w
  · rw [fmtA_pos h]; exact implFmt_pos x w h

theorem slice5 (k : Nat) (h : k ≤ 4) (W : World) : (Instr.slice 9 (.string ⟨#[65, 66, 67, 68, 69]⟩) (some (.int .i64 (k : Int))) (some (.int .i64 ((k : Int) + 1))) none).run Tryz.prog W = .ok (str [letter (k : Int)]) W := by
  have := str_slice (P := Tryz.prog) 9 [65, 66, 67, 68, 69] .i64 .i64 (k : Int) ((k : Int) + 1) Tryz.underlying9 (by omega) (by omega) (by simp; omega) W
  rw [show (Value.string ⟨#[65, 66, 67, 68, 69]⟩) = str [65, 66, 67, 68, 69] from rfl, this]
  have : k = 0 ∨ k = 1 ∨ k = 2 ∨ k = 3 ∨ k = 4 := by omega
  rcases this with rfl | rfl | rfl | rfl | rfl <;> rfl
theorem letters_yes {x : Int} {k : Nat} (h : hasB x k = true) : letters (memK x (k + 1)) = letters (memK x k) ++ [letter (k : Int)] := by rw [memK_yes x k h]; simp [letters]
theorem letters_no {x : Int} {k : Nat} (h : hasB x k = false) : letters (memK x (k + 1)) = letters (memK x k) := by rw [memK_no x k h]

set_option maxHeartbeats 800000 in
set_option maxRecDepth 100000 in
theorem specFmt (x : Int) (w : World) : Calls Tryz.prog 27 #[.int .i64 x] w fun e w' => e = .returned (str (fmtA x)) ∧ w = w' := by
  rcases validB_or x with hv | hv
  · have hfin : ∃ b, (letters (memK x 5) == []) = b ∧ fmtA x = bif b then noneL else letters (memK x 5) := by
      by_cases h : x = 0
      · subst h; exact ⟨true, by decide, by decide⟩
      · have := letters_pos x hv h
        rw [memL_yes x hv] at this
        exact ⟨false, this, by rw [fmtA_pos h, memL_yes x hv]; rfl⟩
    obtain ⟨b, hb1, hb2⟩ := hfin
    replace hv := hide hv
    replace hb2 := hide hb2
    replace hb1 := hide hb1
    go_enter Tryz.func27, Tryz.ntmps27
    go_wp2_with (go_at_call 56; refine (l2valid _ _).mono ?_; rintro e w' ⟨rfl, rfl⟩; rw [hv.out])
    go_loop [3, 4] (fun s i => ∃ k : Nat, k ≤ 5 ∧ i = .int .i64 (k : Int) ∧ s = str (letters (memK x k))) (fun _ i => 5 - (intOf i).toNat)
    case atStart => exact ⟨0, by omega, rfl, rfl⟩
    case round =>
      obtain ⟨k, hk, rfl, rfl⟩ := hrel
      by_cases hlt : k < 5
      · rcases hh : hasB x k with _ | _
        · have hn := hide (letters_no hh)
          rw [← hasB_def] at hh
          go_wp2_with fail
          go_round
          case rel => exact ⟨k + 1, by omega, by go_num, by rw [hn.out]⟩
          case measure => simp [intOf]; omega
        · have hn := hide (letters_yes hh)
          rw [← hasB_def] at hh
          have hsl := fun X => slice5 k (by omega) X
          have hadd := fun X : World => str_add (P := Tryz.prog) 9 (letters (memK x k)) [letter (k : Int)] (by rw [letters_len]; have := memK_len x k; simp; omega) X
          go_wp2_with fail
          go_round
          case rel => exact ⟨k + 1, by omega, by go_num, by rw [hn.out]⟩
          case measure => simp [intOf]; omega
      · obtain rfl : k = 5 := by omega
        cases b with
        | true =>
          have q := hb1.out
          go_wp2_with fail
          go_ret
          exact ⟨by rw [hb2.out]; rfl, rfl⟩
        | false =>
          have q := hb1.out
          go_wp2_with fail
          go_ret
          exact ⟨by rw [hb2.out]; rfl, rfl⟩
  · have e := hide (fmtA_bad hv)
    replace hv := hide hv
    go_enter Tryz.func27, Tryz.ntmps27
    go_wp2_with (go_at_call 56; refine (l2valid _ _).mono ?_; rintro e w' ⟨rfl, rfl⟩; rw [hv.out])
    go_ret
    exact ⟨by rw [e.out]; rfl, rfl⟩
end Go.Proofs.YtooiobcghobefaaGreatDoor
