/-
  Draws of lists of numbers.
  Conditions: as each theorem says.
-/
import Derived.Test.YtooiobcghobefaaGreatDoorDraw3
namespace Go.Proofs.YtooiobcghobefaaGreatDoor
open Go.RowKit
set_option linter.unusedVariables false

theorem grown_new {w w1 w2 : World} {r row : Option Nat} (h : w.grownBy w1 r) (k : w1.grownBy w2 row) (hrow : ∀ b, row = some b → w.heap.size ≤ b) : w.grownBy w2 r :=
  ⟨k.os.trans h.os, k.tape.trans h.tape, k.output.trans h.output, Nat.le_trans h.size k.size, fun i hi hne => (k.block i (Nat.lt_of_lt_of_le hi h.size) (fun e => by have := hrow i e.symm; omega)).trans (h.block i hi hne)⟩
theorem grown_below {w w1 w2 : World} {r : Option Nat} (h : w.grownBy w1 r) (k : Below w1.heap.size w1 w2) : w.grownBy w2 r :=
  ⟨k.os.trans h.os, k.tape.trans h.tape, k.output.trans h.output, Nat.le_trans h.size k.size, fun i hi hne => (k.block i (Nat.lt_of_lt_of_le hi h.size)).trans (h.block i hi hne)⟩
/-- A cursor's block is another than that of a row of numbers. -/
theorem CurAt.ne {w : World} {g B B' e n c m : Nat} {A : Option Addr} {zs : List Int} {v : Value} {xs : List Value} (h : CurAt w g B A n c zs) (ho : w.ownsRow B' e 1 v m xs) (he : e ≠ 64) : v.ownBlock = none ∨ v.ownBlock ≠ some g := by
  obtain ⟨⟨i, H, _, h2⟩, _, _⟩ := h
  exact own_types ho h2 he
theorem CurAt.other {w w' : World} {g B B' e n c m : Nat} {A : Option Addr} {zs : List Int} {v : Value} {xs : List Value} (h : CurAt w g B A n c zs) (ho : w.ownsRow B' e 1 v m xs) (he : e ≠ 64) (hB : B ≤ B') (hg : w.grownBy w' v.ownBlock) : CurAt w' g B A n c zs := by
  refine h.kept hg ?_ (fun k hk => Nat.le_trans hB (ho.lt k hk).1)
  rcases h.ne ho he with hh | hh
  · rw [hh]; exact fun e => by cases e
  · exact hh
theorem CurAt.base {w : World} {g B n c : Nat} {A : Option Addr} {zs : List Int} (h : CurAt w g B A n c zs) : B ≤ w.heap.size := by
  obtain ⟨⟨i, H, _, h2⟩, _, _⟩ := h
  have := h2.lt g rfl
  omega
/-- A list of numbers, drawn. -/
def RetL (m : Nat) (w : World) (g B : Nat) (A : Option Addr) (n c : Nat) (zs : List Int) (e : Ending) (w' : World) : Prop :=
  ∃ (A' : Option Addr) (N d : Nat) (xs : List Int), e = .returned (.slice A' N d) ∧ w'.ownsRow w.heap.size 3 1 (.slice A' N d) N (xs.map (Value.int .i64)) ∧ N ≤ m ∧ CurAt w' g B A n c zs ∧ w.grownBy w' (some g)
end Go.Proofs.YtooiobcghobefaaGreatDoor
