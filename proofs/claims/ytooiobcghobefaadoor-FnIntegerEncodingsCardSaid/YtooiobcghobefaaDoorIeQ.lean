/-
  The helpers of the law FnIntegerEncodings.
  Conditions: as each theorem says.
-/
import Derived.Test.YtooiobcghobefaaDoorIeP
import Derived.Test.YtooiobcghobefaaDoorUnhex2
import Derived.Test.YtooiobcghobefaaDoorVarD
import Derived.Test.YtooiobcghobefaaDoorItaI
import Derived.Test.YtooiobcghobefaaDoorDrawN
namespace Go.Proofs.YtooiobcghobefaaDoor
open Go.RowKit Go.Lib
set_option linter.unusedVariables false

theorem toL (l : List UInt8) : (⟨l.toArray⟩ : ByteArray).data.toList = l := by simp
theorem implDecS (l : List UInt8) (W : Int) (w : World) (hs : l.length ≤ 1048576) : Calls Tryd.prog 34 #[str l, .int .i64 W] w fun e w' => e = .returned (decA l W) ∧ w = w' := by
  have h := implDecF ⟨l.toArray⟩ W w (by rw [size_str]; unfold maxLen; omega)
  rw [toL] at h
  exact h
theorem implHexS (l : List UInt8) (w : World) (hs : l.length ≤ 1048576) : Calls Tryd.prog 36 #[str l] w (RetVal w (str (hexL l))) := by
  have h := implHex ⟨l.toArray⟩ w (by rw [size_str]; exact hs)
  rw [toL] at h
  exact h
theorem varL_len (n : Int) : (varL n).length ≤ 7 := by
  by_cases h : 0 ≤ n ∧ n ≤ 562949953421311
  · rw [varL_eq n h]
    exact varF_len 6 7 n.toNat (Nat.lt_of_le_of_lt (show n.toNat ≤ 562949953421311 by omega) (by decide)) (by omega)
  · rw [varL_no n h]; simp
theorem fixA_len (n W : Int) : (fixA n W).length ≤ 7 := by
  unfold fixA
  split
  · rename_i h
    unfold fixW
    split
    · rw [be_length]; omega
    · simp
  · simp
set_option maxRecDepth 100000 in
theorem lawBigE (A : Option Addr) (n c : Nat) (b : Bool) (w : World) (hb : decide ((1048576 : Int) < (n : Int)) = b) : Calls Tryd.prog 27 #[.slice A n c] w fun e w' => e = .returned (.bool b) ∧ w = w' := by
  replace hb := hide hb
  go_enter Tryd.func27, Tryd.ntmps27
  go_wp2_with fail
  go_ret
  exact ⟨ret_bool hb.out, rfl⟩
theorem itoa_le20 {n : Int} (h0 : -9223372036854775808 ≤ n) (h1 : n ≤ 9223372036854775807) : (itoa n).length ≤ 20 := by
  unfold itoa
  split
  · rw [List.length_cons, decDigits_length]
    have := nDigits_le (u := n.natAbs) (k := 19) (by omega) (by omega)
    omega
  · rw [decDigits_length]
    have := nDigits_le (u := n.toNat) (k := 19) (by omega) (by omega)
    omega
end Go.Proofs.YtooiobcghobefaaDoor
