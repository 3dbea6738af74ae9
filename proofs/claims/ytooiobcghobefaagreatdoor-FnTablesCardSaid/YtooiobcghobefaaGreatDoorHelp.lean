/-
  Walks of the laws' own helpers over lists of numbers: sizes, copies, comparisons, marks.
  Conditions: as each theorem says.
-/
import Derived.Test.YtooiobcghobefaaGreatDoorWords
import Derived.Test.YtooiobcghobefaaGreatDoorOpen
namespace Go.Proofs.YtooiobcghobefaaGreatDoor
open Go.RowKit
set_option linter.unusedVariables false

theorem elemI : Elem Tryz.prog 37 3 (.int .i64 0) 8 := ⟨Tryz.underlying37, by kernel_rfl, rfl, by decide⟩

theorem take_eq_succ {α : Type} {xs ys : List α} {k : Nat} {x : α} (h : xs.take k = ys.take k) (hx : xs[k]? = some x) (hy : ys[k]? = some x) : xs.take (k + 1) = ys.take (k + 1) := by
  rw [List.take_add_one, List.take_add_one, h, hx, hy]
theorem ne_of_at {α : Type} {xs ys : List α} {k : Nat} {x y : α} (hx : xs[k]? = some x) (hy : ys[k]? = some y) (h : x ≠ y) : xs ≠ ys := by
  rintro rfl; rw [hx] at hy; exact h (Option.some.inj hy)

/-- What is left of a budget, or -1. -/
def szV (left tot : Int) : Int := if tot ≤ left then left - tot else -1
theorem szV_yes {left tot : Int} (h : tot ≤ left) : szV left tot = left - tot := if_pos h
theorem szV_left {left : Int} {tot : Nat} (h : (tot : Int) ≤ left) : ∃ L : Nat, szV left (tot : Int) = (L : Int) ∧ (L : Int) ≤ left - tot ∧ left - tot ≤ (L : Int) := ⟨(left - tot).toNat, by rw [szV_yes h]; omega, by omega, by omega⟩
theorem szV_no {left tot : Int} (h : left < tot) : szV left tot = -1 := if_neg (by omega)


/-- A value, the memory as it was; the order of some operations was drawn. -/
def RetQuiet (w : World) (v : Value) (e : Ending) (w' : World) : Prop := e = .returned v ∧ ∃ m, w' = w.drewN m
theorem RetQuiet.below {w : World} {v : Value} {e : Ending} {w' : World} (h : RetQuiet w v e w') : RetVal w v e w' := by
  obtain ⟨h1, m, rfl⟩ := h
  exact ⟨h1, below_drewN (Below.refl _ _) m⟩
theorem below_of_drewN (w : World) (m : Nat) : Below w.heap.size w (w.drewN m) := below_drewN (Below.refl _ _) m
theorem Reads.drewN' {w : World} {B n m : Nat} {A : Option Addr} {xs : List Value} (h : Reads w B A n xs) : Reads (w.drewN m) B A n xs := h

theorem at_row {w : World} {B n k : Nat} {A : Option Addr} {zss : List (List Int)} (h : RowsAt w B A n zss) (hk : k < n) :
    ∃ b o zs A' c', A = some ⟨b, o, none⟩ ∧ b < B ∧ zss[k]? = some zs ∧ w.cell? ⟨b, o + k, none⟩ = some (.slice A' zs.length c') ∧ Reads w B A' zs.length (zs.map (Value.int .i64)) := by
  obtain ⟨h1, vs, h2, h3⟩ := h
  obtain ⟨b, o, u, rfl, hb, hu, hc⟩ := h2.at_ hk
  have hz : zss[k]? = some (zss[k]'(by omega)) := List.getElem?_eq_getElem (by omega)
  obtain ⟨A', c', h4, h5⟩ := h3 k _ hz
  rw [hu] at h4
  simp only [Option.some.injEq] at h4
  subst h4
  exact ⟨b, o, _, A', c', rfl, hb, hz, hc, h5⟩
theorem rows_bound {w : World} {B n : Nat} {A : Option Addr} {zss : List (List Int)} (h : RowsAt w B A n zss) : n ≤ 9223372036854775807 := by
  obtain ⟨_, vs, h2, _⟩ := h
  exact h2.bound
/-- How many values a list of lists holds, the lists counted too. -/
def lens (zss : List (List Int)) : Nat := (zss.map List.length).sum
theorem lens_take_succ {zss : List (List Int)} {k : Nat} {zs : List Int} (h : zss[k]? = some zs) : lens (zss.take (k + 1)) = lens (zss.take k) + zs.length := by
  unfold lens
  rw [List.take_add_one, h]; simp
theorem lens_take_le (zss : List (List Int)) (k : Nat) : lens (zss.take k) ≤ lens zss := by
  have : lens zss = lens (zss.take k) + lens (zss.drop k) := by
    simp only [lens]
    rw [← List.sum_append, ← List.map_append, List.take_append_drop]
  omega

end Go.Proofs.YtooiobcghobefaaGreatDoor
