/-
  Walks of DecodeHex, in the program and in the reference.
  Conditions: the string has at most 1048576 bytes.
-/
import Derived.Test.YtooiobcghobefaaDoorHex
import Derived.Test.YtooiobcghobefaaDoorShelf
namespace Go.Proofs.YtooiobcghobefaaDoor
open Go.RowKit
set_option linter.unusedVariables false

/-- The value of a hexadecimal digit, or -1. -/
def fromHex (b : UInt8) : Int := Lib.indexByte [48, 49, 50, 51, 52, 53, 54, 55, 56, 57, 97, 98, 99, 100, 101, 102] b
def fromHexB : Bool := (List.range 256).all fun b => decide (-1 ≤ fromHex (UInt8.ofNat b)) && decide (fromHex (UInt8.ofNat b) ≤ 15) && (decide (fromHex (UInt8.ofNat b) = -1) || (List.range 16).any fun k => hexD k == UInt8.ofNat b)
theorem fromHexB_true : fromHexB = true := by decide +kernel
theorem fromHex_all (b : UInt8) : -1 ≤ fromHex b ∧ fromHex b ≤ 15 ∧ (fromHex b = -1 ∨ ∃ k, k < 16 ∧ hexD k = b) := by
  have h := fromHexB_true
  unfold fromHexB at h
  rw [List.all_eq_true] at h
  have h1 := h b.toNat (List.mem_range.2 (by have := b.toNat_lt; omega))
  rw [UInt8.ofNat_toNat] at h1
  simp only [Bool.and_eq_true, decide_eq_true_eq, Bool.or_eq_true, List.any_eq_true, List.mem_range, beq_iff_eq] at h1
  obtain ⟨⟨a1, a2⟩, a3⟩ := h1
  exact ⟨a1, a2, a3⟩
theorem fromHex_at (k : Nat) (h : k < 16) : fromHex (hexD k) = k := by
  have : k = 0 ∨ k = 1 ∨ k = 2 ∨ k = 3 ∨ k = 4 ∨ k = 5 ∨ k = 6 ∨ k = 7 ∨ k = 8 ∨ k = 9 ∨ k = 10 ∨ k = 11 ∨ k = 12 ∨ k = 13 ∨ k = 14 ∨ k = 15 := by omega
  rcases this with rfl | rfl | rfl | rfl | rfl | rfl | rfl | rfl | rfl | rfl | rfl | rfl | rfl | rfl | rfl | rfl <;> rfl
theorem fromHex_none (b : UInt8) (h : ∀ j, j < 16 → hexD j ≠ b) : fromHex b = -1 := by
  rcases (fromHex_all b).2.2 with h1 | ⟨k, hk, e⟩
  · exact h1
  · exact absurd e (h k hk)

/-- 'strings.IndexByte' at the digits. -/
theorem idxHex (b : UInt8) (w : World) : Calls Tryd.prog 62 #[.string ⟨#[48, 49, 50, 51, 52, 53, 54, 55, 56, 57, 97, 98, 99, 100, 101, 102]⟩, .int .u8 (b.toNat : Int)] w fun e w' => e = .returned (.int .i64 (fromHex b)) ∧ w = w' :=
  (Tryd.strings_IndexByte ⟨#[48, 49, 50, 51, 52, 53, 54, 55, 56, 57, 97, 98, 99, 100, 101, 102]⟩ (b.toNat : Int) w).mono fun e w' ⟨h1, h2⟩ => ⟨by
    rw [h1, Int.toNat_natCast]
    show Ending.returned (.int .i64 (Lib.indexByte _ (UInt8.ofNat b.toNat))) = _
    rw [UInt8.ofNat_toNat]
    rfl, h2.symm⟩

/-- What DecodeHex reads, where it reads. -/
def unhex : List UInt8 → Option (List UInt8)
  | [] => some []
  | [_] => none
  | a :: b :: l => if fromHex a < 0 ∨ fromHex b < 0 then none else (unhex l).map (UInt8.ofNat (16 * (fromHex a).toNat + (fromHex b).toNat) :: ·)
def unhexV (l : List UInt8) : Value := match unhex l with
  | some r => .tuple #[str r, .bool true]
  | none => .tuple #[str [], .bool false]
theorem unhex_odd : ∀ l : List UInt8, l.length % 2 = 1 → unhex l = none
  | [], h => by simp at h
  | [_], _ => rfl
  | a :: b :: l, h => by
    have := unhex_odd l (by simp at h; omega)
    unfold unhex
    rw [this]
    split <;> rfl
theorem unhexV_none {l : List UInt8} (h : unhex l = none) : unhexV l = .tuple #[str [], .bool false] := by rw [unhexV, h]
theorem unhexV_some {l r : List UInt8} (h : unhex l = some r) : unhexV l = .tuple #[str r, .bool true] := by rw [unhexV, h]
theorem drop_two (l : List UInt8) (q : Nat) (h : q + 1 < l.length) : l.drop q = l[q]?.getD 0 :: l[q + 1]?.getD 0 :: l.drop (q + 2) := by
  rw [List.drop_eq_getElem_cons (by omega), List.drop_eq_getElem_cons h, List.getElem?_eq_getElem (by omega), List.getElem?_eq_getElem h]
  rfl
theorem unhex_bad (l ys : List UInt8) (q : Nat) (h : q + 1 < l.length) (hr : unhex l = (unhex (l.drop q)).map (ys ++ ·)) (hb : fromHex (l[q]?.getD 0) < 0 ∨ fromHex (l[q + 1]?.getD 0) < 0) : unhex l = none := by
  rw [hr, drop_two l q h, unhex, if_pos hb]; rfl
theorem unhex_good (l ys : List UInt8) (q : Nat) (h : q + 1 < l.length) (hr : unhex l = (unhex (l.drop q)).map (ys ++ ·)) (h1 : 0 ≤ fromHex (l[q]?.getD 0)) (h2 : 0 ≤ fromHex (l[q + 1]?.getD 0)) :
    unhex l = (unhex (l.drop (q + 2))).map ((ys ++ [UInt8.ofNat (16 * (fromHex (l[q]?.getD 0)).toNat + (fromHex (l[q + 1]?.getD 0)).toNat)]) ++ ·) := by
  rw [hr, drop_two l q h, unhex, if_neg (by omega), Option.map_map]
  congr 1
  funext x
  simp
end Go.Proofs.YtooiobcghobefaaDoor
