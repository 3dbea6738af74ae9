/-
  Plain laws of decimal numerals: what the reference's loops reckon is the library's numeral; a numeral is read back.
  Conditions: as each theorem says.
-/
import Derived.Lib.ItoaNum
import Derived.Lib.ItoaLen
import Derived.Lib.AtoiTie
import Derived.Test.YtooiobcghobefaaGreatDoorWords
namespace Go.Proofs.YtooiobcghobefaaGreatDoor
open Go.RowKit Go.Lib
set_option linter.unusedVariables false

/-- The digits' value, whatever is no digit passed by. -/
def digF : Nat → List UInt8 → Nat
  | acc, [] => acc
  | acc, b :: r => if 48 ≤ b.toNat ∧ b.toNat ≤ 57 then digF (acc * 10 + (b.toNat - 48)) r else digF acc r
/-- How many digits. -/
def digC : List UInt8 → Nat
  | [] => 0
  | b :: r => if 48 ≤ b.toNat ∧ b.toNat ≤ 57 then digC r + 1 else digC r
theorem digF_snoc (b : UInt8) : ∀ (l : List UInt8) (acc : Nat), digF acc (l ++ [b]) = if 48 ≤ b.toNat ∧ b.toNat ≤ 57 then digF acc l * 10 + (b.toNat - 48) else digF acc l
  | [], acc => by simp [digF]
  | c :: r, acc => by
    rw [List.cons_append, digF, digF]
    by_cases h : 48 ≤ c.toNat ∧ c.toNat ≤ 57
    · rw [if_pos h, if_pos h, digF_snoc b r]
    · rw [if_neg h, if_neg h, digF_snoc b r]
theorem digC_snoc (b : UInt8) : ∀ (l : List UInt8), digC (l ++ [b]) = if 48 ≤ b.toNat ∧ b.toNat ≤ 57 then digC l + 1 else digC l
  | [] => by simp [digC]
  | c :: r => by
    rw [List.cons_append, digC, digC]
    by_cases h : 48 ≤ c.toNat ∧ c.toNat ≤ 57
    · rw [if_pos h, if_pos h, digC_snoc b r]; split <;> rfl
    · rw [if_neg h, if_neg h, digC_snoc b r]
theorem digC_le : ∀ (l : List UInt8), digC l ≤ l.length
  | [] => Nat.le_refl _
  | b :: r => by have := digC_le r; rw [digC, List.length_cons]; split <;> omega
theorem digF_lt : ∀ (l : List UInt8) (acc : Nat), digF acc l < (acc + 1) * 10 ^ digC l
  | [], acc => by simp [digF, digC]
  | b :: r, acc => by
    rw [digF, digC]
    by_cases h : 48 ≤ b.toNat ∧ b.toNat ≤ 57
    · rw [if_pos h, if_pos h]
      have h1 := digF_lt r (acc * 10 + (b.toNat - 48))
      have h2 : (acc * 10 + (b.toNat - 48) + 1) * 10 ^ digC r ≤ ((acc + 1) * 10) * 10 ^ digC r := Nat.mul_le_mul_right _ (by omega)
      rw [Nat.pow_succ, Nat.mul_comm (10 ^ digC r) 10, ← Nat.mul_assoc]
      omega
    · rw [if_neg h, if_neg h]; exact digF_lt r acc
theorem u8_dig {d : Nat} (h : d < 10) : (UInt8.ofNat (48 + d)).toNat = 48 + d := by rw [UInt8.toNat_ofNat']; omega
theorem digF_dec (u : Nat) : ∀ acc, digF acc (decDigits u) = acc * 10 ^ nDigits u + u := by
  induction u using Nat.strongRecOn with
  | _ u ih =>
    intro acc
    by_cases h : u < 10
    · rw [decDigits, dif_pos h, nDigits_small h, digF, u8_dig h, if_pos (by omega), digF]; omega
    · rw [decDigits, dif_neg h, nDigits_big h, digF_snoc, u8_dig (by omega), if_pos (by omega), ih (u / 10) (by omega), Nat.pow_succ, Nat.add_mul, Nat.mul_assoc]
      omega
theorem digC_dec (u : Nat) : digC (decDigits u) = nDigits u := by
  induction u using Nat.strongRecOn with
  | _ u ih =>
    by_cases h : u < 10
    · rw [decDigits, dif_pos h, nDigits_small h, digC, u8_dig h, if_pos (by omega), digC]
    · rw [decDigits, dif_neg h, nDigits_big h, digC_snoc, u8_dig (by omega), if_pos (by omega), ih (u / 10) (by omega)]
theorem decFrom_snoc (b : UInt8) (d : Nat) (hd : digitVal b = some d) : ∀ (l : List UInt8) (acc m : Nat), decFrom acc l = some m → decFrom acc (l ++ [b]) = some (m * 10 + d)
  | [], acc, m, h => by simp only [decFrom, Option.some.injEq] at h; subst h; simp [decFrom, hd]
  | c :: r, acc, m, h => by
    rw [List.cons_append]
    simp only [decFrom] at h ⊢
    cases hc : digitVal c with
    | none => rw [hc] at h; cases h
    | some e => rw [hc] at h; exact decFrom_snoc b d hd r _ m h
theorem decFrom_dec (u : Nat) : decFrom 0 (decDigits u) = some u := by
  induction u using Nat.strongRecOn with
  | _ u ih =>
    have hd : ∀ d, d < 10 → digitVal (UInt8.ofNat (48 + d)) = some d := fun d hd => by unfold digitVal; rw [u8_dig hd, if_pos (by omega)]; congr 1; omega
    by_cases h : u < 10
    · rw [decDigits, dif_pos h]
      have := decFrom_snoc _ u (hd u h) [] 0 0 rfl
      simpa using this
    · rw [decDigits, dif_neg h, decFrom_snoc _ (u % 10) (hd _ (by omega)) _ _ _ (ih (u / 10) (by omega))]
      congr 1; omega
theorem dec_ne (u : Nat) : decDigits u ≠ [] := fun h => by have := decDigits_length u; have := nDigits_pos u; rw [h] at *; simp at *; omega
theorem decNat_dec (u : Nat) : decNat (decDigits u) = some u := by
  unfold decNat
  rw [if_neg (by rw [List.isEmpty_iff]; exact dec_ne u), decFrom_dec]
theorem dec_head (u : Nat) : ∃ b r, decDigits u = b :: r ∧ 48 ≤ b.toNat ∧ b.toNat ≤ 57 := by
  induction u using Nat.strongRecOn with
  | _ u ih =>
    by_cases h : u < 10
    · exact ⟨_, [], by rw [decDigits, dif_pos h], by rw [u8_dig h]; omega, by rw [u8_dig h]; omega⟩
    · obtain ⟨b, r, h1, h2⟩ := ih (u / 10) (by omega)
      exact ⟨b, _, by rw [decDigits, dif_neg h, h1, List.cons_append], h2⟩
theorem atoi_itoa (n : Int) : atoi (itoa n) = some n := by
  unfold itoa
  by_cases h : n < 0
  · rw [if_pos h]
    simp only [atoi]
    rw [if_pos (by rfl), decNat_dec]
    simp; omega
  · rw [if_neg h]
    obtain ⟨b, r, h1, h2, h3⟩ := dec_head n.toNat
    rw [h1]
    simp only [atoi]
    rw [if_neg (by intro e; rw [beq_iff_eq] at e; rw [e] at h2; revert h2; decide), if_neg (by intro e; rw [beq_iff_eq] at e; rw [e] at h2; revert h2; decide), ← h1, decNat_dec]
    simp; omega
/-- The number that the reference reckons of a text. -/
def numOf (s : List UInt8) : Int := if s.head? = some 45 then -((digF 0 (s.take 11) : Nat) : Int) else ((digF 0 (s.take 11) : Nat) : Int)
theorem nDigits_le {u k : Nat} (h : u < 10 ^ k) (hk : 1 ≤ k) : nDigits u ≤ k := by
  rcases Nat.lt_or_ge k (nDigits u) with h1 | h1
  · exfalso
    have h2 : ∀ v, 10 ^ (nDigits v - 1) ≤ v ∨ nDigits v = 1 := by
      intro v
      induction v using Nat.strongRecOn with
      | _ v ih =>
        by_cases h : v < 10
        · exact .inr (nDigits_small h)
        · rw [nDigits_big h]
          left
          rcases ih (v / 10) (by omega) with h3 | h3
          · have := nDigits_pos (v / 10)
            rw [show nDigits (v / 10) + 1 - 1 = (nDigits (v / 10) - 1) + 1 by omega, Nat.pow_succ]
            omega
          · rw [h3]; simp; omega
    rcases h2 u with h3 | h3
    · have := Nat.pow_le_pow_right (n := 10) (by decide) (show k ≤ nDigits u - 1 by omega)
      omega
    · omega
  · exact h1
def inP (n : Int) : Bool := decide (-999999999 ≤ n) && decide (n ≤ 999999999)
theorem itoa_short {n : Int} (h : inP n = true) : (itoa n).length ≤ 10 ∧ digC (itoa n) ≤ 9 := by
  have h' : -999999999 ≤ n ∧ n ≤ 999999999 := by simpa [inP] using h
  unfold itoa
  by_cases h0 : n < 0
  · rw [if_pos h0, List.length_cons, decDigits_length]
    have := nDigits_le (u := n.natAbs) (k := 9) (by omega) (by omega)
    refine ⟨by omega, ?_⟩
    rw [digC, if_neg (by decide), digC_dec]; exact this
  · rw [if_neg h0, decDigits_length, digC_dec]
    have := nDigits_le (u := n.toNat) (k := 9) (by omega) (by omega)
    omega
theorem numOf_itoa {n : Int} (h : inP n = true) : numOf (itoa n) = n := by
  have hs := (itoa_short h).1
  unfold numOf
  rw [List.take_of_length_le (by omega)]
  unfold itoa
  by_cases h0 : n < 0
  · rw [if_pos h0, List.head?_cons, if_pos rfl, digF, if_neg (by decide), digF_dec]
    simp; omega
  · rw [if_neg h0]
    obtain ⟨b, r, h1, h2, h3⟩ := dec_head n.toNat
    rw [h1, List.head?_cons, if_neg (by intro e; cases e; revert h2; decide), ← h1, digF_dec]
    simp; omega
/-- What ParseInt answers. -/
def parG (s : List UInt8) : Bool := inP (numOf s) && (itoa (numOf s) == s)
def parN (s : List UInt8) : Int := if parG s then numOf s else 0
/-- The reference's test. -/
theorem spec_test (s : List UInt8) : (!(decide (9 < digC (s.take 11)) || decide (10 < s.length) || !(itoa (numOf s) == s))) = parG s := by
  cases he : (itoa (numOf s) == s)
  · simp [parG, he]
  have he' := beq_iff_eq.1 he
  cases hp : inP (numOf s)
  · rw [show parG s = false by simp [parG, hp]]
    rcases Nat.lt_or_ge 10 s.length with h1 | h1
    · simp [h1]
    · rcases Nat.lt_or_ge 9 (digC (s.take 11)) with h2 | h2
      · simp [h2]
      · exfalso
        have h3 := digF_lt (s.take 11) 0
        have h4 := Nat.pow_le_pow_right (n := 10) (by decide) h2
        have h5 : (10 : Nat) ^ 9 = 1000000000 := by decide
        have h6 : inP (numOf s) = true := by unfold inP numOf; split <;> simp <;> omega
        rw [h6] at hp; cases hp
  · obtain ⟨h1, h2⟩ := itoa_short hp
    rw [he'] at h1 h2
    rw [show parG s = true by simp [parG, hp, he]]
    rw [List.take_of_length_le (by omega)]
    simp
    omega
/-- The program's test, where the library reads a number. -/
theorem impl_ok {s : List UInt8} {v : Int} (h : atoiAll s = .ok v) : (inP v && (itoa v == s)) = parG s ∧ (parG s = true → v = numOf s) := by
  have key : parG s = true → v = numOf s := fun hp => by
    simp only [parG, Bool.and_eq_true, beq_iff_eq] at hp
    obtain ⟨h1, h2⟩ := hp
    have hl := (itoa_short h1).1
    have h3 := atoiAll_short (itoa (numOf s)) (by omega)
    rw [atoi_itoa, h2, h] at h3
    simp only [NumEnd.ofOption, NumEnd.ok.injEq] at h3
    exact h3
  refine ⟨?_, key⟩
  cases hp : parG s
  · cases hv : (inP v && (itoa v == s))
    · rfl
    · exfalso
      simp only [Bool.and_eq_true, beq_iff_eq] at hv
      have h1 := numOf_itoa hv.1
      rw [hv.2] at h1
      have : parG s = true := by unfold parG; rw [h1]; simp [hv]
      rw [this] at hp; cases hp
  · rw [key hp]
    exact hp
theorem impl_no {s : List UInt8} (h : ∀ v, atoiAll s ≠ .ok v) : parG s = false := by
  cases hp : parG s
  · rfl
  · exfalso
    simp only [parG, Bool.and_eq_true, beq_iff_eq] at hp
    obtain ⟨h1, h2⟩ := hp
    have hl := (itoa_short h1).1
    have h3 := atoiAll_short (itoa (numOf s)) (by omega)
    rw [atoi_itoa, h2] at h3
    exact h _ h3
/-- What the reference's loop has laid: the last digits; the rest is v. -/
def fmtRest (v : Nat) : List UInt8 := if v = 0 then [] else decDigits v
theorem fmtRest_step {v : Nat} (h : v ≠ 0) (out : List UInt8) : fmtRest (v / 10) ++ (UInt8.ofNat (48 + v % 10) :: out) = fmtRest v ++ out := by
  unfold fmtRest
  rw [if_neg h]
  by_cases h1 : v < 10
  · rw [if_pos (by omega), decDigits, dif_pos h1, Nat.mod_eq_of_lt h1]; rfl
  · rw [if_neg (by omega)]
    conv => rhs; rw [decDigits, dif_neg h1]
    simp
theorem itoa_zero : itoa 0 = [48] := by rw [itoa, if_neg (by omega), show (0 : Int).toNat = 0 from rfl, decDigits, dif_pos (by omega)]; rfl
end Go.Proofs.YtooiobcghobefaaGreatDoor
