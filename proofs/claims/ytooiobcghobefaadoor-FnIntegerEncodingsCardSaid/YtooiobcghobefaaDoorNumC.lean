/-
  One contract for each encoding of numbers, over all arguments.
  Conditions: the numbers fit 64 bits, the strings are no longer than a string can be.
-/
import Derived.Test.YtooiobcghobefaaDoorNum
namespace Go.Proofs.YtooiobcghobefaaDoor
open Go.RowKit
/-- What EncodeFixed answers. -/
def fixA (n W : Int) : List UInt8 := if 1 ≤ W ∧ W ≤ 7 ∧ 0 ≤ n then fixW W.toNat n.toNat else []
theorem implFix (n W : Int) (w : World) (h : n ≤ 9223372036854775807) : Calls Tryd.prog 33 #[.int .i64 n, .int .i64 W] w (RetVal w (str (fixA n W))) := by
  by_cases hc : 1 ≤ W ∧ W ≤ 7 ∧ 0 ≤ n
  · rw [fixA, if_pos hc]
    obtain ⟨m, rfl⟩ := Int.eq_ofNat_of_zero_le hc.2.2
    obtain ⟨V, rfl⟩ := Int.eq_ofNat_of_zero_le (show 0 ≤ W by omega)
    rw [Int.toNat_natCast, Int.toNat_natCast]
    rcases Nat.lt_or_ge m (256 ^ V) with hl | hl
    · rw [fixW_small hl]; exact implFix_yes m V w (by omega) (by omega) (by omega) hl
    · rw [fixW_big hl]; exact implFix_big m V w (by omega) (by omega) (by omega) hl
  · rw [fixA, if_neg hc]; exact implFix_no n W w (by omega)
theorem specFix (n W : Int) (w : World) (h : n ≤ 9223372036854775807) : Calls Tryd.prog 35 #[.int .i64 n, .int .i64 W] w (RetVal w (str (fixA n W))) := by
  by_cases hc : 1 ≤ W ∧ W ≤ 7 ∧ 0 ≤ n
  · rw [fixA, if_pos hc]
    obtain ⟨m, rfl⟩ := Int.eq_ofNat_of_zero_le hc.2.2
    obtain ⟨V, rfl⟩ := Int.eq_ofNat_of_zero_le (show 0 ≤ W by omega)
    rw [Int.toNat_natCast, Int.toNat_natCast]
    exact specFix_yes m V w (by omega) (by omega) (by omega)
  · rw [fixA, if_neg hc]; exact specFix_no n W w (by omega)
/-- What DecodeFixed answers. -/
def decA (s : List UInt8) (W : Int) : Value := if 1 ≤ W ∧ W ≤ 7 ∧ W ≤ s.length then .tuple #[.int .i64 (decF (s.take W.toNat)), .bool true] else .tuple #[.int .i64 0, .bool false]
theorem size_toList (s : ByteArray) : s.data.toList.length = s.size := by simp
theorem implDecF (s : ByteArray) (W : Int) (w : World) (hs : s.size ≤ maxLen) : Calls Tryd.prog 34 #[.string s, .int .i64 W] w fun e w' => e = .returned (decA s.data.toList W) ∧ w = w' := by
  by_cases hc : 1 ≤ W ∧ W ≤ 7 ∧ W ≤ s.data.toList.length
  · rw [decA, if_pos hc]
    rw [size_toList] at hc
    obtain ⟨V, rfl⟩ := Int.eq_ofNat_of_zero_le (show 0 ≤ W by omega)
    exact implDecF_yes s V w (by omega) (by omega) (by omega) hs
  · rw [decA, if_neg hc]
    rw [size_toList] at hc
    exact implDecF_no s W w (by omega) hs
theorem decA_form (s : List UInt8) (W : Int) : ∃ (n : Int) (b : Bool), decA s W = .tuple #[.int .i64 n, .bool b] := by
  unfold decA; split <;> exact ⟨_, _, rfl⟩
theorem varL_eq (n : Int) (h : 0 ≤ n ∧ n ≤ 562949953421311) : varL n = varF 7 n.toNat := if_pos h
theorem varL_no (n : Int) (h : ¬ (0 ≤ n ∧ n ≤ 562949953421311)) : varL n = [] := if_neg h
theorem implVar (n : Int) (w : World) : Calls Tryd.prog 30 #[.int .i64 n] w (RetVal w (str (varL n))) := by
  by_cases hc : 0 ≤ n ∧ n ≤ 562949953421311
  · rw [varL_eq n hc]
    obtain ⟨m, rfl⟩ := Int.eq_ofNat_of_zero_le hc.1
    exact implVar_yes m w (by omega)
  · rw [varL_no n hc]; exact implVar_no n w (by omega)
end Go.Proofs.YtooiobcghobefaaDoor