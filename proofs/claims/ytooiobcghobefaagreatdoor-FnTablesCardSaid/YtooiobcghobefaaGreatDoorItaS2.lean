/-
  Walks of the reference's FormatInt and ParseInt.
  Conditions: as each theorem says.
-/
import Derived.Test.YtooiobcghobefaaGreatDoorIta

namespace Go.Proofs.YtooiobcghobefaaGreatDoor
open Go.RowKit Go.Lib
set_option linter.unusedVariables false
set_option linter.unusedSimpArgs false
theorem elemByteI : Elem Tryz.prog 22 5 (.int .u8 0) 1 := ⟨Tryz.underlying22, by kernel_rfl, rfl, by decide⟩

theorem ita_nonneg (u : Nat) : itoa (u : Int) = decDigits u := by unfold itoa; rw [if_neg (by omega)]; simp
theorem ita_neg (u : Nat) (h : 1 ≤ u) : itoa (-(u : Int)) = 45 :: decDigits u := by unfold itoa; rw [if_pos (by omega)]; simp
theorem rest_dec {u : Nat} (h : u ≠ 0) : fmtRest u = decDigits u := by unfold fmtRest; rw [if_neg h]
theorem rest_zero : fmtRest 0 = [] := rfl
theorem dec_len {u : Nat} (h : u ≤ 9223372036854775808) : (decDigits u).length ≤ 20 := by
  rw [decDigits_length]
  exact nDigits_le (Nat.lt_of_le_of_lt h (by decide)) (by omega)
set_option maxHeartbeats 1600000 in
set_option maxRecDepth 100000 in
theorem specItoa (n : Int) (w : World) (h0 : -9223372036854775808 ≤ n) (h1 : n ≤ 9223372036854775807) : Calls Tryz.prog 57 #[.int .i64 n] w (RetVal w (str (itoa n))) := by
  by_cases hz : n = 0
  · subst hz
    rw [itoa_zero]
    go_enter Tryz.func57, Tryz.ntmps57
    go_wp2_with fail
    go_ret
    exact ⟨rfl, Below.refl _ _⟩
  by_cases hs : 0 < n
  · obtain ⟨N, rfl⟩ : ∃ N : Nat, n = N := ⟨n.toNat, by omega⟩
    have hi := hide (ita_nonneg N)
    have hN : N ≠ 0 := by omega
    have hl := dec_len (u := N) (by omega)
    have hst := hide (rest_dec hN)
    have d0 : decide ((N : Int) < 0) = false := by simp
    have d1 : ((N : Int) == 0) = false := by simp; omega
    go_enter Tryz.func57, Tryz.ntmps57
    go_wp2_with fail
    go_loopw [0, 3, 5] (fun m o d wr => ∃ (v : Nat) (l : List UInt8), m = .int .i64 (v : Int) ∧ v ≤ 9223372036854775807 ∧ o = str l ∧ fmtRest v ++ l = decDigits N ∧ Below w.heap.size w wr) (fun m _ _ _ => (intOf m).natAbs)
    case atStart => exact ⟨N, [], rfl, by omega, rfl, by rw [List.append_nil, hst.out], Below.refl _ _⟩
    case round =>
      clear hst h0 h1 hz hs d0 d1 hN
      obtain ⟨v, l, rfl, hv, rfl, he, hb⟩ := hrel
      have hll : l.length ≤ 20 := by have := congrArg List.length he; rw [List.length_append] at this; omega
      replace he := hide he
      replace hl := hide hl
      by_cases hlt : v = 0
      · subst hlt
        go_wp2_with fail
        go_ret
        exact ⟨ret_str (by rw [hi.out, ← he.out]; rfl), hb⟩
      · have d1 : ((v : Int) != 0) = true := by simp; omega
        have d2 : decide ((v : Int) % 10 < 0) = false := by simp; omega
        have hstep := hide (fmtRest_step hlt l)
        obtain ⟨B, hB⟩ : ∃ B, B = UInt8.ofNat (48 + v % 10) := ⟨_, rfl⟩
        have hlit := own_byte1 wr 5 (48 + (v : Int) % 10) B (by rw [hB, bc_ofNat _ (by omega)]; rfl)
        have hadd := fun X : World => str_add (P := Tryz.prog) 9 [B] l (by simp; omega) X
        rw [← hB] at hstep
        replace hB := hide hB
        go_wp2_with (with_reducible refine wpList_own_string (o := ⟨some 22, _, _, _, _, _⟩) rfl (.tmp 21) _ _ 5 rfl Tryz.underlying22 Tryz.underlying5 Tryz.underlying9 wr.heap.size (some ⟨wr.heap.size, 0, none⟩) 1 1 _ rfl hlit ?_)
        go_roundw
        case rel => exact ⟨v / 10, B :: l, by go_num, by omega, rfl, by rw [hstep.out, he.out], hb.alloc hb.size _⟩
        case measure => simp [intOf]; omega
  · obtain ⟨N, rfl⟩ : ∃ N : Nat, n = -(N : Int) := ⟨n.natAbs, by omega⟩
    have hN : N ≠ 0 := by omega
    have hi := hide (ita_neg N (by omega))
    have hl := dec_len (u := N) (by omega)
    have hst := hide (rest_dec hN)
    have d0 : decide (-(N : Int) < 0) = true := by simp; omega
    have d3 : decide (0 < N) = true := by simp; omega
    have d4 : decide (0 < (N : Int)) = true := by simp; omega
    have d1 : (-(N : Int) == 0) = false := by simp; omega
    go_enter Tryz.func57, Tryz.ntmps57
    go_wp2_with fail
    go_loopw [0, 3, 5] (fun m o d wr => ∃ (v : Nat) (l : List UInt8), m = .int .i64 (-(v : Int)) ∧ v ≤ 9223372036854775808 ∧ o = str l ∧ fmtRest v ++ l = decDigits N ∧ Below w.heap.size w wr) (fun m _ _ _ => (intOf m).natAbs)
    case atStart => exact ⟨N, [], rfl, by omega, rfl, by rw [List.append_nil, hst.out], Below.refl _ _⟩
    case round =>
      clear hst h0 h1 hz hs d0 d1 hN d3 d4
      obtain ⟨v, l, rfl, hv, rfl, he, hb⟩ := hrel
      have hll : l.length ≤ 20 := by have := congrArg List.length he; rw [List.length_append] at this; omega
      by_cases hlt : v = 0
      · subst hlt
        have hadd := fun X : World => (show (binOp .add 9 (.string ⟨#[45]⟩) (str l)).run Tryz.prog X = .ok (str (45 :: l)) X from str_add (P := Tryz.prog) 9 [45] l (by simp; omega) X)
        replace he := hide he
        replace hl := hide hl
        go_wp2_with fail
        go_ret
        exact ⟨ret_str (by rw [hi.out, ← he.out]; rfl), hb⟩
      · have d1 : (-(v : Int) != 0) = true := by simp; omega
        have hstep := hide (fmtRest_step hlt l)
        obtain ⟨B, hB⟩ : ∃ B, B = UInt8.ofNat (48 + v % 10) := ⟨_, rfl⟩
        have hadd := fun X : World => str_add (P := Tryz.prog) 9 [B] l (by simp; omega) X
        rw [← hB] at hstep
        replace he := hide he
        replace hl := hide hl
        by_cases hd : 0 < v % 10
        · have d2 : decide (0 < (v : Int) % 10) = true := by simp; omega
          have hlit := own_byte1 wr 5 (48 + (v : Int) % 10) B (by rw [hB, bc_ofNat _ (by omega)]; rfl)
          replace hB := hide hB
          replace hd := hide hd
          go_wp2_with (with_reducible refine wpList_own_string (o := ⟨some 22, _, _, _, _, _⟩) rfl (.tmp 21) _ _ 5 rfl Tryz.underlying22 Tryz.underlying5 Tryz.underlying9 wr.heap.size (some ⟨wr.heap.size, 0, none⟩) 1 1 _ rfl hlit ?_)
          go_roundw
          case rel => exact ⟨v / 10, B :: l, by go_num, by omega, rfl, by rw [hstep.out, he.out], hb.alloc hb.size _⟩
          case measure => simp [intOf]; omega
        · have d2 : decide (0 < (v : Int) % 10) = false := by simp; omega
          have hlit := own_byte1 wr 5 (48 + -((v : Int) % 10)) B (by rw [hB, bc_ofNat _ (by omega)]; congr 1; omega)
          replace hB := hide hB
          replace hd := hide hd
          go_wp2_with (with_reducible refine wpList_own_string (o := ⟨some 22, _, _, _, _, _⟩) rfl (.tmp 21) _ _ 5 rfl Tryz.underlying22 Tryz.underlying5 Tryz.underlying9 wr.heap.size (some ⟨wr.heap.size, 0, none⟩) 1 1 _ rfl hlit ?_)
          go_roundw
          case rel => exact ⟨v / 10, B :: l, by go_num, by omega, rfl, by rw [hstep.out, he.out], hb.alloc hb.size _⟩
          case measure => simp [intOf]; omega
/-- What ParseInt answers. -/
def parV (s : List UInt8) : Value := .tuple #[.int .i64 (parN s), .bool (parG s)]
theorem digF_small {l : List UInt8} (h : l.length ≤ 11) : digF 0 l < 100000000000 := by
  have h1 := digF_lt l 0
  have h2 := digC_le l
  have h3 := Nat.pow_le_pow_right (n := 10) (by decide) (show digC l ≤ 11 by omega)
  have h4 : (10 : Nat) ^ 11 = 100000000000 := by decide
  omega
theorem take_at {s : List UInt8} {k : Nat} {b : UInt8} (h : s[k]? = some b) : s.take (k + 1) = s.take k ++ [b] := by rw [List.take_add_one, h]; rfl
theorem u8_lt' (b : UInt8) : b.toNat ≤ 255 := by have := b.toNat_lt; omega
end Go.Proofs.YtooiobcghobefaaGreatDoor
