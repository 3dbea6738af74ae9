/-
  Plain laws of texts joined.
  Conditions: as each theorem says.
-/
import Derived.Lib.Join
import Derived.Test.YtooiobcghobefaaGreatDoorIta
namespace Go.Proofs.YtooiobcghobefaaGreatDoor
open Go.RowKit Go.Lib
set_option linter.unusedVariables false

theorem join_snoc (sep y : List UInt8) (l : List (List UInt8)) : Lib.join (l ++ [y]) sep = if l = [] then y else Lib.join l sep ++ (sep ++ y) := by
  cases l with
  | nil => rw [if_pos rfl, List.nil_append, join_one]
  | cons x r => rw [if_neg (by simp), List.cons_append, join_cons, join_cons]; simp [joinTail]
theorem join_take_zero {xs : List (List UInt8)} {y : List UInt8} (sep : List UInt8) (h : xs[0]? = some y) : Lib.join (xs.take 1) sep = y := by
  rw [List.take_add_one, h]; exact join_one _ _
theorem join_take_succ {xs : List (List UInt8)} {k : Nat} {y : List UInt8} (sep : List UInt8) (h : xs[k + 1]? = some y) : Lib.join (xs.take (k + 2)) sep = Lib.join (xs.take (k + 1)) sep ++ (sep ++ y) := by
  have hl : k + 1 < xs.length := (List.getElem?_eq_some_iff.1 h).1
  rw [List.take_add_one, h]
  show Lib.join (xs.take (k + 1) ++ [y]) sep = _
  rw [join_snoc, if_neg (by intro e; have := congrArg List.length e; rw [List.length_take, List.length_nil] at this; omega)]
theorem join_len (sep : List UInt8) (xs : List (List UInt8)) : (Lib.join xs sep).length ≤ Lib.lens xs + sep.length * xs.length := by
  cases xs with
  | nil => simp [join_nil]
  | cons x r =>
    rw [join_cons, List.length_append, joinTail_length]
    simp only [Lib.lens, List.map_cons, List.sum_cons, List.length_cons]
    rw [Nat.mul_succ]
    omega
theorem lens_map {α : Type} (f : α → List UInt8) (k : Nat) : ∀ (xs : List α), (∀ x ∈ xs, (f x).length ≤ k) → Lib.lens (xs.map f) ≤ k * xs.length
  | [], _ => by simp [Lib.lens]
  | x :: r, h => by
    have h1 := h x (by simp)
    have h2 := lens_map f k r fun y hy => h y (List.mem_cons_of_mem _ hy)
    simp only [Lib.lens, List.map_cons, List.sum_cons, List.length_cons] at h2 ⊢
    rw [Nat.mul_succ]
    omega
end Go.Proofs.YtooiobcghobefaaGreatDoor
