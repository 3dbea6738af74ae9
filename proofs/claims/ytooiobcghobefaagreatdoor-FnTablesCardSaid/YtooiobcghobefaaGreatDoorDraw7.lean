/-
  Draws of a table and a meaning of nulls.
  Conditions: as each theorem says.
-/
import Derived.Test.YtooiobcghobefaaGreatDoorDraw6
namespace Go.Proofs.YtooiobcghobefaaGreatDoor
open Go.RowKit
set_option linter.unusedVariables false

theorem TabI.setAll {w0 w : World} {g B n c ra tb N d N2 d2 : Nat} {col col2 : Int} {A A' A2 : Option Addr} {zs : List Int} {zss zss2 : List (List Int)} (h : TabI w0 w g B A n c zs ra tb col A' N d zss) (hR : RowsU w w0.heap.size w.heap.size A2 N2 d2 zss2) (hBw : B ≤ w0.heap.size) (ht : w0.heap.size ≤ tb) (hne : ra ≠ tb) :
    TabI w0 ((w.setCell ⟨tb, 0, none⟩ (.int .i64 col2)).setCell ⟨tb, 1, none⟩ (.slice A2 N2 d2)) g B A n c zs ra tb col2 A2 N2 d2 zss2 := by
  obtain ⟨h1, h2, h3, h4, h5⟩ := h
  have g1 := grown_setCell w tb 0 (.int .i64 col2)
  have g2 := grown_setCell (w.setCell ⟨tb, 0, none⟩ (.int .i64 col2)) tb 1 (.slice A2 N2 d2)
  have p1 := (h1.stored 0 (.int .i64 col2)).1
  have p2 := (p1.stored 1 (.slice A2 N2 d2)).1
  have hra : (Value.slice (some (⟨ra, 0, none⟩ : Addr)) 2 2).ownBlock = none ∨ (Value.slice (some (⟨ra, 0, none⟩ : Addr)) 2 2).ownBlock ≠ some tb := .inr (by simp [Value.ownBlock]; omega)
  exact ⟨p2, ((hR.other h1 (by decide) (.inl (by decide)) g1).other p1 (by decide) (.inl (by decide)) g2).bound,
    own_store (o := 1) (.slice A2 N2 d2) (own_store (o := 0) (.int .i64 col2) h3 (g := tb) hra) (g := tb) hra,
    (h4.other h1 (by decide) hBw g1).other p1 (by decide) hBw g2, grown_new (grown_new h5 g1 (fun b hb => by cases hb; exact ht)) g2 (fun b hb => by cases hb; exact ht)⟩
/-- A table and a number, drawn. -/
def RetM (w : World) (g B : Nat) (A : Option Addr) (n c : Nat) (zs : List Int) (e : Ending) (w' : World) : Prop :=
  ∃ (A' : Option Addr) (N d : Nat) (col m : Int) (zss : List (List Int)), e = .returned (.tuple #[.agg #[.int .i64 col, .slice A' N d], .int .i64 m]) ∧ N ≤ 13 ∧ RowsU w' w.heap.size w'.heap.size A' N d zss ∧ CurAt w' g B A n c zs ∧ w.grownBy w' (some g)
/-- A cursor made in the call is one over code that came in. -/
theorem CurAt.lower {w w1 : World} {g B n c : Nat} {A : Option Addr} {zs : List Int} (h : CurAt w1 g B A n c zs) (hr : Reads w w.heap.size A n (zs.map (Value.int .u8))) (hb : Below w.heap.size w w1) (hB : w.heap.size ≤ B) : CurAt w1 g w.heap.size A n c zs := by
  obtain ⟨⟨i, H, h1, h2⟩, _, h4⟩ := h
  exact ⟨⟨i, H, h1, own_more h2 hB⟩, hr.below hb, h4⟩
theorem grown_of_below {w w1 : World} (hb : Below w.heap.size w w1) (r : Option Nat) : w.grownBy w1 r := ⟨hb.os, hb.tape, hb.output, hb.size, fun k hk _ => hb.block k hk⟩
theorem below_of_grown {w w1 : World} {g : Nat} (hg : w.grownBy w1 (some g)) (h : w.heap.size ≤ g) : Below w.heap.size w w1 := (Below.refl _ _).grown hg (Nat.le_refl _) fun k hk => by cases hk; exact h
/-- The result's struct filled, wherever the table's struct is read. -/
theorem TabI.fin2 {w0 w : World} {g B n c ra tb N d : Nat} {col : Int} {A A' : Option Addr} {zs : List Int} {zss : List (List Int)} (h : TabI w0 w g B A n c zs ra tb col A' N d zss) (hBw : B ≤ w0.heap.size) (hra : w0.heap.size ≤ ra) (hne : ra ≠ tb) :
    ((w.setCell ⟨ra, 0, none⟩ (.int .i64 col)).setCell ⟨ra, 1, none⟩ (.slice A' N d)).ownsRow w0.heap.size 26 1 (.slice (some ⟨ra, 0, none⟩) 2 2) 2 [.int .i64 col, .slice A' N d] := by
  have p1 := (h.res.stored 0 (.int .i64 col)).1
  exact (p1.stored 1 (.slice A' N d)).1
end Go.Proofs.YtooiobcghobefaaGreatDoor
