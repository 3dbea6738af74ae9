/-
  Walks of the laws' own helpers over tables: sizes, copies, comparisons.
  Conditions: as each theorem says.
-/
import Derived.Test.YtooiobcghobefaaGreatDoorRows0
namespace Go.Proofs.YtooiobcghobefaaGreatDoor
open Go.RowKit
set_option linter.unusedVariables false

theorem RowsAt.alloc {w : World} {B n : Nat} {A : Option Addr} {zss : List (List Int)} (h : RowsAt w B A n zss) (hB : B ≤ w.heap.size) (o : Obj) : RowsAt (w.alloc o) B A n zss := h.keep fun p hp => World.cell?_alloc_lt w o p (by omega)

theorem RowsAt.later {w W : World} {n : Nat} {A : Option Addr} {zss : List (List Int)} (h : RowsAt w w.heap.size A n zss) (hb : Below w.heap.size w W) : RowsAt W W.heap.size A n zss := (h.below hb).more hb.size


/-- A table in the call's own memory. -/
def RetTab (w : World) (m : Int) (zss : List (List Int)) (e : Ending) (w' : World) : Prop :=
  ∃ A n c, e = .returned (.agg #[.int .i64 m, .slice A n c]) ∧ OwnRows w' w.heap.size A n c zss ∧ Below w.heap.size w w'


/-! ### Comparisons -/
theorem rows_ne_of_at {xss yss : List (List Int)} {k : Nat} {xs ys : List Int} (hx : xss[k]? = some xs) (hy : yss[k]? = some ys) (h : (xs == ys) = false) : (xss == yss) = false := by
  rw [beq_eq_false_iff_ne] at h ⊢
  exact ne_of_at hx hy h

def tabEqB (m1 m2 : Int) (xss yss : List (List Int)) : Bool := (m1 == m2) && (xss == yss)
theorem tabEqB_same (m : Int) (xss : List (List Int)) : tabEqB m m xss xss = true := by simp [tabEqB]
end Go.Proofs.YtooiobcghobefaaGreatDoor
