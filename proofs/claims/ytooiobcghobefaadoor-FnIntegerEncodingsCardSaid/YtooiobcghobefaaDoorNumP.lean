/-
  Plain functions for the encodings of numbers: what the Go texts compute.
  Conditions: none; these are definitions and lemmas.
-/
import Derived.Test.YtooiobcghobefaaDoorWords
namespace Go.Proofs.YtooiobcghobefaaDoor

/-- The varint of n, at most k + 1 bytes. -/
def varF : Nat → Nat → List UInt8
  | 0, n => [UInt8.ofNat n]
  | k + 1, n => if n < 128 then [UInt8.ofNat n] else UInt8.ofNat (n % 128 + 128) :: varF k (n / 128)
def varL (n : Int) : List UInt8 := if 0 ≤ n ∧ n ≤ 562949953421311 then varF 7 n.toNat else []
theorem varF_small (k n : Nat) (h : n < 128) : varF k n = [UInt8.ofNat n] := by cases k <;> simp [varF, h]
theorem varF_big (k n : Nat) (h : 128 ≤ n) : varF (k + 1) n = UInt8.ofNat (n % 128 + 128) :: varF k (n / 128) := by
  rw [varF, if_neg (by omega)]
theorem div_pow_lt (k m : Nat) (h : m < 128 ^ (k + 2)) : m / 128 < 128 ^ (k + 1) := by
  rw [Nat.div_lt_iff_lt_mul (by omega)]
  rwa [Nat.pow_succ] at h

/-- A number out of its bytes, the highest first. -/
def decF (l : List UInt8) : Nat := l.foldl (fun n b => 256 * n + b.toNat) 0
theorem decF_snoc (l : List UInt8) (b : UInt8) : decF (l ++ [b]) = 256 * decF l + b.toNat := by simp [decF]
theorem u8_lt (b : UInt8) : b.toNat ≤ 255 := by have := b.toNat_lt; omega
theorem snocRec {P : List UInt8 → Prop} (h0 : P []) (h1 : ∀ l b, P l → P (l ++ [b])) (l : List UInt8) : P l := by
  have : ∀ m : List UInt8, P m.reverse := by
    intro m
    induction m with
    | nil => exact h0
    | cons b m ih => rw [List.reverse_cons]; exact h1 _ _ ih
  have h := this l.reverse
  rwa [List.reverse_reverse] at h
theorem decF_lt (l : List UInt8) : decF l < 256 ^ l.length := by
  refine snocRec (P := fun l => decF l < 256 ^ l.length) (by simp [decF]) (fun l b ih => ?_) l
  show decF (l ++ [b]) < 256 ^ (l ++ [b]).length
  rw [decF_snoc, List.length_append, List.length_singleton, Nat.pow_succ]
  have := u8_lt b
  have ih' : decF l < 256 ^ l.length := ih
  omega
theorem take_snoc (s : ByteArray) (k : Nat) (h : k < s.size) : s.data.toList.take (k + 1) = s.data.toList.take k ++ [s[k]] := by
  rw [List.take_succ_eq_append_getElem (by simpa using h)]; rfl
theorem pow_le6 (k : Nat) (h : k ≤ 6) : 256 ^ k ≤ 281474976710656 := by
  have : k = 0 ∨ k = 1 ∨ k = 2 ∨ k = 3 ∨ k = 4 ∨ k = 5 ∨ k = 6 := by omega
  rcases this with rfl | rfl | rfl | rfl | rfl | rfl | rfl <;> decide
theorem decF_take_lt (s : ByteArray) (k : Nat) (h : k ≤ 6) : decF (s.data.toList.take k) ≤ 281474976710655 := by
  have h1 := decF_lt (s.data.toList.take k)
  have h2 : 256 ^ (s.data.toList.take k).length ≤ 256 ^ k := Nat.pow_le_pow_right (by omega) (by simp; omega)
  have := pow_le6 k h
  omega

/-- The k lowest bytes of n, the highest first. -/
def be : Nat → Nat → List UInt8
  | 0, _ => []
  | k + 1, n => UInt8.ofNat (n / 256 ^ k % 256) :: be k n
/-- What EncodeFixed answers at a width from 1 to 7. -/
def fixW (W n : Nat) : List UInt8 := if n < 256 ^ W then be W n else []
theorem fixW_small {W n : Nat} (h : n < 256 ^ W) : fixW W n = be W n := if_pos h
theorem fixW_big {W n : Nat} (h : 256 ^ W ≤ n) : fixW W n = [] := if_neg (by omega)
theorem be_length (k n : Nat) : (be k n).length = k := by induction k <;> simp [be, *]
theorem pow_two_256 (W : Nat) : (2 : Int) ^ (8 * W) = ((256 ^ W : Nat) : Int) := by
  rw [Int.pow_mul]; simp
theorem shr_zero (n W : Nat) (h : n < 256 ^ W) : ((n : Int) / 2 ^ (8 * W) != 0) = false := by
  rw [pow_two_256, ← Int.natCast_ediv, Nat.div_eq_of_lt h]; rfl
theorem shr_pos (n W : Nat) (h : 256 ^ W ≤ n) : ((n : Int) / 2 ^ (8 * W) != 0) = true := by
  rw [pow_two_256, ← Int.natCast_ediv]
  have h1 : 0 < n / 256 ^ W := Nat.div_pos h (Nat.pow_pos (by omega))
  generalize n / 256 ^ W = q at h1
  rw [bne_iff_ne]; omega
theorem div_step (n k : Nat) : n / 256 ^ k / 256 = n / 256 ^ (k + 1) := by rw [Nat.div_div_eq_div_mul, Nat.pow_succ]
theorem set_zeros (r : Nat) (b : UInt8) (l : List Value) : (List.replicate (r + 1) (Value.int .u8 0) ++ l).set r (bc b) = List.replicate r (Value.int .u8 0) ++ bc b :: l := by
  rw [List.replicate_succ', List.append_assoc, List.set_append]
  simp

def hexD (k : Nat) : UInt8 := [48, 49, 50, 51, 52, 53, 54, 55, 56, 57, 97, 98, 99, 100, 101, 102].getD k 0
def hexL (l : List UInt8) : List UInt8 := l.flatMap fun b => [hexD (b.toNat / 16), hexD (b.toNat % 16)]
theorem hexL_snoc (l : List UInt8) (b : UInt8) : hexL (l ++ [b]) = hexL l ++ [hexD (b.toNat / 16), hexD (b.toNat % 16)] := by simp [hexL]
theorem hexL_length (l : List UInt8) : (hexL l).length = 2 * l.length := by
  induction l with
  | nil => rfl
  | cons b l ih => show (hexD _ :: hexD _ :: hexL l).length = _; simp [ih]; omega
end Go.Proofs.YtooiobcghobefaaDoor
