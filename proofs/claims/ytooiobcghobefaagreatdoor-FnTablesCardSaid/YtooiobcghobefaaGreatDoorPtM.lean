/-
  The memory of a table that is read line by line.
  Conditions: as each theorem says.
-/
import Derived.Test.YtooiobcghobefaaGreatDoorRowsU
import Derived.Test.YtooiobcghobefaaGreatDoorTab
namespace Go.Proofs.YtooiobcghobefaaGreatDoor
open Go.RowKit
set_option linter.unusedVariables false

theorem rowsQ_nil (w : World) (B H : Nat) : RowsU w B H none 0 0 [] := ⟨rfl, [], World.ownsRow_nil _ _ _ _, (fun i zs hi => by simp at hi), (fun i j u v _ hu => by simp at hu)⟩
/-- The struct in block tb, its rows, the result's struct ahead of it. -/
structure TabQ (w0 w : World) (tb : Nat) (col : Int) (A : Option Addr) (N d : Nat) (zss : List (List Int)) : Prop where
  tab : w.ownsRow w0.heap.size 26 1 (.slice (some ⟨tb, 0, none⟩) 2 2) 2 [.int .i64 col, .slice A N d]
  rows : RowsU w w0.heap.size w.heap.size A N d zss
  res : w.ownsRow w0.heap.size 26 1 (.slice (some ⟨w0.heap.size, 0, none⟩) 2 2) 2 [.int .i64 0, .slice none 0 0]
  below : Below w0.heap.size w0 w
  gt : w0.heap.size < tb
section
variable {w0 w w' : World} {tb N d : Nat} {col : Int} {A : Option Addr} {zss : List (List Int)}
theorem TabQ.later (h : TabQ w0 w tb col A N d zss) (hb : Below w.heap.size w w') : TabQ w0 w' tb col A N d zss :=
  ⟨own_below h.tab hb, (h.rows.below hb).bound, own_below h.res hb, h.below.trans (hb.mono h.below.size), h.gt⟩
theorem TabQ.lt (h : TabQ w0 w tb col A N d zss) : tb < w.heap.size := (h.tab.lt tb rfl).2
/-- Where the struct is laid. -/
theorem TabQ.start {w1 : World} (hres : w1.ownsRow w0.heap.size 26 1 (.slice (some ⟨w0.heap.size, 0, none⟩) 2 2) 2 [.int .i64 0, .slice none 0 0]) (hb : Below w0.heap.size w0 w1) (col : Int) (hgt : w0.heap.size < w1.heap.size) :
    TabQ w0 (w1.alloc (.cells #[.int .i64 col, .slice none 0 0] 26)) w1.heap.size col none 0 0 [] :=
  ⟨World.ownsRow_lit (e := 26) (size := 1) w1 #[.int .i64 col, .slice none 0 0] 2 hb.size (by unfold maxLen; omega) rfl, rowsQ_nil _ _ _,
    own_below hres ((Below.refl _ _).alloc (Nat.le_refl _) _), hb.alloc hb.size _, hgt⟩
/-- One row more. -/
theorem TabQ.push {wo wq w5 : World} {A1 A5 : Option Addr} {n1 c1 c5 : Nat} {zs : List Int} {vs : List Value} (h : TabQ w0 wo tb col A N d zss) (hb : Below wo.heap.size wo wq) (lz : zss.length = N) (hV : RowsV wq w0.heap.size wo.heap.size A N d zss vs)
    (hrow : wq.ownsRow wo.heap.size 3 1 (.slice A1 n1 c1) n1 (zs.map (Value.int .i64))) (hown : w5.ownsRow w0.heap.size 37 1 (.slice A5 (N + 1) c5) (N + 1) (vs ++ [.slice A1 n1 c1])) (hg : wq.grownBy w5 (Value.slice A N d).ownBlock) :
    TabQ w0 (w5.setCell ⟨tb, 1, none⟩ (.slice A5 (N + 1) c5)) tb col A5 (N + 1) c5 (zss ++ [zs]) := by
  have hs := h.below.size
  have hgt := h.gt
  have htab5 := (own_below h.tab hb).kept hg (own_types (own_below h.tab hb) hV.1 (by decide))
  have hR5 := RowsU.push lz hV (own_more hrow hs) (fun k hk => (hrow.lt k hk).1) hown hg
  have hs6 := grown_setCell w5 tb 1 (.slice A5 (N + 1) c5)
  have hres5 := (own_below h.res hb).kept hg (own_types (own_below h.res hb) hV.1 (by decide))
  have hb5 : Below w0.heap.size w0 w5 := (h.below.trans (hb.mono hs)).grown hg (Nat.le_trans hs hb.size) (fun k hk => (hV.1.lt k hk).1)
  refine ⟨(htab5.stored 1 _).1, (hR5.other htab5 (by decide) (.inl (by decide)) hs6).bound, own_store (o := 1) (.slice A5 (N + 1) c5) hres5 (g := tb) (.inr (by simp [Value.ownBlock]; omega)), hb5.grown hs6 hb5.size (fun k hk => by cases hk; omega), hgt⟩
/-- The struct read into the result's. -/
theorem TabQ.fin (h : TabQ w0 w tb col A N d zss) :
    ((w.setCell ⟨w0.heap.size, 0, none⟩ (.int .i64 col)).setCell ⟨w0.heap.size, 1, none⟩ (.slice A N d)).cell? ⟨w0.heap.size, 0, none⟩ = some (.int .i64 col) ∧
    ((w.setCell ⟨w0.heap.size, 0, none⟩ (.int .i64 col)).setCell ⟨w0.heap.size, 1, none⟩ (.slice A N d)).cell? ⟨w0.heap.size, 1, none⟩ = some (.slice A N d) ∧
    OwnRows ((w.setCell ⟨w0.heap.size, 0, none⟩ (.int .i64 col)).setCell ⟨w0.heap.size, 1, none⟩ (.slice A N d)) w0.heap.size A N d zss ∧
    Below w0.heap.size w0 ((w.setCell ⟨w0.heap.size, 0, none⟩ (.int .i64 col)).setCell ⟨w0.heap.size, 1, none⟩ (.slice A N d)) := by
  have g1 := grown_setCell w w0.heap.size 0 (.int .i64 col)
  have g2 := grown_setCell (w.setCell ⟨w0.heap.size, 0, none⟩ (.int .i64 col)) w0.heap.size 1 (.slice A N d)
  have p1 := (h.res.stored 0 (.int .i64 col)).1
  have p2 := (p1.stored 1 (.slice A N d)).1
  have b1 := h.below.grown g1 h.below.size (fun k hk => by cases hk; exact Nat.le_refl _)
  exact ⟨p2.cellAt 0 (by omega), p2.cellAt 1 (by omega), ((h.rows.other h.res (by decide) (.inl (by decide)) g1).other p1 (by decide) (.inl (by decide)) g2).own,
    b1.grown g2 b1.size (fun k hk => by cases hk; exact Nat.le_refl _)⟩
/-- An empty struct written over the result's. -/
theorem res_fin {w0 w : World} (hres : w.ownsRow w0.heap.size 26 1 (.slice (some ⟨w0.heap.size, 0, none⟩) 2 2) 2 [.int .i64 0, .slice none 0 0]) (hb : Below w0.heap.size w0 w) :
    ((w.setCell ⟨w0.heap.size, 0, none⟩ (.int .i64 0)).setCell ⟨w0.heap.size, 1, none⟩ (.slice none 0 0)).cell? ⟨w0.heap.size, 0, none⟩ = some (.int .i64 0) ∧
    ((w.setCell ⟨w0.heap.size, 0, none⟩ (.int .i64 0)).setCell ⟨w0.heap.size, 1, none⟩ (.slice none 0 0)).cell? ⟨w0.heap.size, 1, none⟩ = some (.slice none 0 0) ∧
    OwnRows ((w.setCell ⟨w0.heap.size, 0, none⟩ (.int .i64 0)).setCell ⟨w0.heap.size, 1, none⟩ (.slice none 0 0)) w0.heap.size none 0 0 [] ∧
    Below w0.heap.size w0 ((w.setCell ⟨w0.heap.size, 0, none⟩ (.int .i64 0)).setCell ⟨w0.heap.size, 1, none⟩ (.slice none 0 0)) := by
  have g1 := grown_setCell w w0.heap.size 0 (.int .i64 0)
  have g2 := grown_setCell (w.setCell ⟨w0.heap.size, 0, none⟩ (.int .i64 0)) w0.heap.size 1 (.slice none 0 0)
  have p1 := (hres.stored 0 (.int .i64 0)).1
  have p2 := (p1.stored 1 (.slice none 0 0)).1
  have b1 := hb.grown g1 hb.size (fun k hk => by cases hk; exact Nat.le_refl _)
  exact ⟨p2.cellAt 0 (by omega), p2.cellAt 1 (by omega), (rowsQ_nil _ _ 0).own, b1.grown g2 b1.size (fun k hk => by cases hk; exact Nat.le_refl _)⟩
end
/-- Texts in memory. -/
theorem at_str {w : World} {B n k : Nat} {A : Option Addr} {xs : List (List UInt8)} (h : Reads w B A n (xs.map str)) (hk : k < n) :
    ∃ b o x, A = some ⟨b, o, none⟩ ∧ b < B ∧ xs[k]? = some x ∧ w.cell? ⟨b, o + k, none⟩ = some (str x) := by
  obtain ⟨b, o, u, rfl, hb, hx, hc⟩ := h.at_ hk
  rw [List.getElem?_map] at hx
  obtain ⟨x, hx2, hx3⟩ := Option.map_eq_some_iff.1 hx
  subst hx3
  exact ⟨b, o, x, rfl, hb, hx2, hc⟩
end Go.Proofs.YtooiobcghobefaaGreatDoor
