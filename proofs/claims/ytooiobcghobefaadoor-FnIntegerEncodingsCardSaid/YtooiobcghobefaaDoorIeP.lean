/-
  Plain laws of the encodings of numbers: what is encoded is decoded again, whatever follows.
  Conditions: as each theorem says.
-/
import Derived.Test.YtooiobcghobefaaDoorVarP
import Derived.Test.YtooiobcghobefaaDoorUnhex
import Derived.Test.YtooiobcghobefaaDoorItaS2
namespace Go.Proofs.YtooiobcghobefaaDoor
open Go.RowKit Go.Lib
set_option linter.unusedVariables false

theorem varF_ne (f n : Nat) : varF f n ≠ [] := by
  cases f
  · simp [varF]
  · rw [varF]; split <;> simp
theorem varF_len : ∀ (k f n : Nat), n < 128 ^ (k + 1) → k ≤ f → (varF f n).length ≤ k + 1
  | 0, f, n, h, _ => by rw [varF_small f n (by simpa using h)]; simp
  | k + 1, f, n, h, hk => by
    obtain ⟨f', rfl⟩ : ∃ q, f = q + 1 := ⟨f - 1, by omega⟩
    rcases Nat.lt_or_ge n 128 with hn | hn
    · rw [varF_small _ n hn]; simp
    · rw [varF_big f' n hn, List.length_cons]
      have := varF_len k f' (n / 128) (div_pow_lt k n h) (by omega)
      omega
/-- An encoded number is decoded again, whatever follows. -/
theorem decV_var (n : Nat) (t : List UInt8) (h : n ≤ 562949953421311) : decV (varL n ++ t) = (n, (varL n).length) := by
  have hv : varL (n : Int) = varF 7 n := by rw [varL_eq _ (by omega)]; simp
  rw [hv]
  have hn7 : n < 128 ^ 7 := Nat.lt_of_le_of_lt h (by decide)
  obtain ⟨h1, h2⟩ := val_varF 7 n (Nat.lt_of_lt_of_le hn7 (by decide))
  have hl := varF_len 6 7 n hn7 (by omega)
  have hp : 0 < (varF 7 n).length := List.length_pos_iff.2 (varF_ne 7 n)
  obtain ⟨i, hi⟩ : ∃ i, (varF 7 n).length = i + 1 := ⟨(varF 7 n).length - 1, by omega⟩
  have htk : (varF 7 n ++ t).take (i + 1) = varF 7 n := by rw [← hi, List.take_left]
  have hll : i < (varF 7 n ++ t).length := by rw [List.length_append]; omega
  have hst : Stops (varF 7 n ++ t) i := (good_iff _ i hll).1 (by rw [htk]; exact h2)
  rw [decV_at (by omega) hll hst, htk, h1, hi]
theorem varL_ne (n : Nat) (h : n ≤ 562949953421311) : (varL n == []) = false := by
  rw [varL_eq _ (by omega), beq_eq_false_iff_ne]
  exact varF_ne _ _
theorem decF_be : ∀ (k n : Nat), decF (be k n) = n % 256 ^ k := by
  have key : ∀ (k n acc : Nat), (be k n).foldl (fun n b => 256 * n + b.toNat) acc = acc * 256 ^ k + n % 256 ^ k := by
    intro k
    induction k with
    | zero => intro n acc; simp [be, Nat.mod_one]
    | succ k ih =>
      intro n acc
      have e : n % 256 ^ (k + 1) = n % 256 ^ k + 256 ^ k * (n / 256 ^ k % 256) := by rw [Nat.pow_succ]; exact Nat.mod_mul
      have e2 : (UInt8.ofNat (n / 256 ^ k % 256)).toNat = n / 256 ^ k % 256 := by rw [UInt8.toNat_ofNat']; omega
      have e3 : 256 ^ (k + 1) = 256 * 256 ^ k := by rw [Nat.pow_succ, Nat.mul_comm]
      rw [be, List.foldl_cons, ih, e2, e, e3]
      generalize 256 ^ k = P
      generalize n / P % 256 = Q
      generalize n % P = R
      rw [Nat.add_mul, Nat.mul_comm Q P, Nat.mul_comm 256 acc, Nat.mul_assoc]
      omega
  intro k n
  have := key k n 0
  unfold decF
  rw [this]; simp
/-- A number in a fixed width is decoded again, whatever follows. -/
theorem dec_fix (x W : Int) (t : List UInt8) (h : (fixA x W == []) = false) : decA (fixA x W ++ t) W = .tuple #[.int .i64 x, .bool true] ∧ ((fixA x W).length : Int) = W := by
  unfold fixA at h ⊢
  split at h
  · rename_i hc
    rw [if_pos hc]
    obtain ⟨h1, h2, h3⟩ := hc
    obtain ⟨K, rfl⟩ : ∃ K : Nat, W = K := ⟨W.toNat, by omega⟩
    obtain ⟨N, rfl⟩ : ∃ N : Nat, x = N := ⟨x.toNat, by omega⟩
    rw [Int.toNat_natCast, Int.toNat_natCast] at *
    rcases Nat.lt_or_ge N (256 ^ K) with hN | hN
    · rw [fixW_small hN]
      refine ⟨?_, by rw [be_length]⟩
      unfold decA
      rw [if_pos ⟨h1, h2, by rw [List.length_append, be_length]; omega⟩, Int.toNat_natCast, show (be K N ++ t).take K = be K N by
        have := List.take_left (l₁ := be K N) (l₂ := t); rwa [be_length] at this, decF_be, Nat.mod_eq_of_lt hN]
    · rw [fixW_big hN] at h; simp at h
  · simp at h
/-- Hexadecimal digits are read back. -/
theorem unhex_hex : ∀ t : List UInt8, unhex (hexL t) = some t
  | [] => rfl
  | b :: t => by
    have ih := unhex_hex t
    have hb := u8_lt b
    show unhex (hexD (b.toNat / 16) :: hexD (b.toNat % 16) :: hexL t) = _
    rw [unhex, ih, fromHex_at _ (by omega), fromHex_at _ (by omega)]
    have e : UInt8.ofNat (16 * (b.toNat / 16) + b.toNat % 16) = b := by
      apply UInt8.toNat_inj.1
      rw [UInt8.toNat_ofNat']
      omega
    rw [if_neg (by omega)]
    show some (UInt8.ofNat (16 * ((b.toNat / 16 : Nat) : Int).toNat + ((b.toNat % 16 : Nat) : Int).toNat) :: t) = _
    rw [Int.toNat_natCast, Int.toNat_natCast, e]
theorem itoa_inj {a b : Int} (h : itoa a = itoa b) : a = b := by
  have := congrArg atoi h
  rw [atoi_itoa, atoi_itoa] at this
  exact Option.some.inj this
theorem par_ita (x : Int) : parG (itoa x) = inP x ∧ (inP x = true → parN (itoa x) = x) := by
  have key : inP x = true → parG (itoa x) = true ∧ parN (itoa x) = x := fun h => by
    have hn := numOf_itoa h
    have hg : parG (itoa x) = true := by unfold parG; rw [hn, h]; simp
    exact ⟨hg, by unfold parN; rw [hg, if_pos rfl, hn]⟩
  refine ⟨?_, fun h => (key h).2⟩
  cases hp : inP x
  · cases hg : parG (itoa x)
    · rfl
    · exfalso
      simp only [parG, Bool.and_eq_true, beq_iff_eq] at hg
      have := itoa_inj hg.2
      rw [this] at hg
      rw [hg.1] at hp; cases hp
  · exact (key hp).1
end Go.Proofs.YtooiobcghobefaaDoor
