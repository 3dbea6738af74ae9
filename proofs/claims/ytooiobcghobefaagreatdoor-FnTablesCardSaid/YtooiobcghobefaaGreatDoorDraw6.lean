/-
  Draws of tables that may be no tables.
  Conditions: as each theorem says.
-/
import Derived.Test.YtooiobcghobefaaGreatDoorDraw5
import Derived.Deep.RegionLaw
namespace Go.Proofs.YtooiobcghobefaaGreatDoor
open Go.RowKit
set_option linter.unusedVariables false

/-- A table, drawn: its rows are the call's own; it may have any number of columns. -/
def RetA (w : World) (g B : Nat) (A : Option Addr) (n c : Nat) (zs : List Int) (e : Ending) (w' : World) : Prop :=
  ∃ (A' : Option Addr) (N d : Nat) (col : Int) (zss : List (List Int)), e = .returned (.agg #[.int .i64 col, .slice A' N d]) ∧ N ≤ 13 ∧ RowsU w' w.heap.size w'.heap.size A' N d zss ∧ CurAt w' g B A n c zs ∧ w.grownBy w' (some g)
/-- The struct in block tb, the result's in block ra. -/
structure TabI (w0 w : World) (g B : Nat) (A : Option Addr) (n c : Nat) (zs : List Int) (ra tb : Nat) (col : Int) (A' : Option Addr) (N d : Nat) (zss : List (List Int)) : Prop where
  tab : w.ownsRow w0.heap.size 26 1 (.slice (some ⟨tb, 0, none⟩) 2 2) 2 [.int .i64 col, .slice A' N d]
  rows : RowsU w w0.heap.size w.heap.size A' N d zss
  res : w.ownsRow w0.heap.size 26 1 (.slice (some ⟨ra, 0, none⟩) 2 2) 2 [.int .i64 0, .slice none 0 0]
  cur : CurAt w g B A n c zs
  grown : w0.grownBy w (some g)
theorem TabI.grow {w0 w w' : World} {g B n c ra tb N d : Nat} {col : Int} {A A' : Option Addr} {zs : List Int} {zss : List (List Int)} (h : TabI w0 w g B A n c zs ra tb col A' N d zss) (hc : CurAt w' g B A n c zs) (hg : w.grownBy w' (some g)) : TabI w0 w' g B A n c zs ra tb col A' N d zss :=
  ⟨h.tab.kept hg (h.cur.ne h.tab (by decide)), (h.rows.cur h.cur hg).bound, h.res.kept hg (h.cur.ne h.res (by decide)), hc, h.grown.trans hg⟩
theorem TabI.below {w0 w w' : World} {g B n c ra tb N d : Nat} {col : Int} {A A' : Option Addr} {zs : List Int} {zss : List (List Int)} (h : TabI w0 w g B A n c zs ra tb col A' N d zss) (hb : Below w.heap.size w w') : TabI w0 w' g B A n c zs ra tb col A' N d zss :=
  ⟨own_below h.tab hb, (h.rows.below hb).bound, own_below h.res hb, h.cur.below hb, grown_below h.grown hb⟩
/-- Behind the last region: the struct read and handed back. -/
theorem TabI.fin {w0 w : World} {g B n c ra tb N d : Nat} {col : Int} {A A' : Option Addr} {zs : List Int} {zss : List (List Int)} (h : TabI w0 w g B A n c zs ra tb col A' N d zss) (hBw : B ≤ w0.heap.size) (hra : w0.heap.size ≤ ra) :
    ((w.setCell ⟨ra, 0, none⟩ (.int .i64 col)).setCell ⟨ra, 1, none⟩ (.slice A' N d)).cell? ⟨ra, 0, none⟩ = some (.int .i64 col) ∧
    ((w.setCell ⟨ra, 0, none⟩ (.int .i64 col)).setCell ⟨ra, 1, none⟩ (.slice A' N d)).cell? ⟨ra, 1, none⟩ = some (.slice A' N d) ∧
    RowsU ((w.setCell ⟨ra, 0, none⟩ (.int .i64 col)).setCell ⟨ra, 1, none⟩ (.slice A' N d)) w0.heap.size ((w.setCell ⟨ra, 0, none⟩ (.int .i64 col)).setCell ⟨ra, 1, none⟩ (.slice A' N d)).heap.size A' N d zss ∧
    CurAt ((w.setCell ⟨ra, 0, none⟩ (.int .i64 col)).setCell ⟨ra, 1, none⟩ (.slice A' N d)) g B A n c zs ∧
    w0.grownBy ((w.setCell ⟨ra, 0, none⟩ (.int .i64 col)).setCell ⟨ra, 1, none⟩ (.slice A' N d)) (some g) := by
  obtain ⟨_, h2, h3, h4, h5⟩ := h
  have g1 := grown_setCell w ra 0 (.int .i64 col)
  have g2 := grown_setCell (w.setCell ⟨ra, 0, none⟩ (.int .i64 col)) ra 1 (.slice A' N d)
  have p1 := (h3.stored 0 (.int .i64 col)).1
  have p2 := (p1.stored 1 (.slice A' N d)).1
  exact ⟨p2.cellAt 0 (by omega), p2.cellAt 1 (by omega), ((h2.other h3 (by decide) (.inl (by decide)) g1).other p1 (by decide) (.inl (by decide)) g2).bound,
    (h4.other h3 (by decide) hBw g1).other p1 (by decide) hBw g2, grown_new (grown_new h5 g1 (fun b hb => by cases hb; exact hra)) g2 (fun b hb => by cases hb; exact hra)⟩
theorem TabI.setCol {w0 w : World} {g B n c ra tb N d : Nat} {col : Int} {A A' : Option Addr} {zs : List Int} {zss : List (List Int)} (h : TabI w0 w g B A n c zs ra tb col A' N d zss) (hBw : B ≤ w0.heap.size) (ht : w0.heap.size ≤ tb) (hne : ra ≠ tb) (x : Int) :
    TabI w0 (w.setCell ⟨tb, 0, none⟩ (.int .i64 x)) g B A n c zs ra tb x A' N d zss := by
  obtain ⟨h1, h2, h3, h4, h5⟩ := h
  have g1 := grown_setCell w tb 0 (.int .i64 x)
  exact ⟨(h1.stored 0 (.int .i64 x)).1, (h2.other h1 (by decide) (.inl (by decide)) g1).bound, own_store (o := 0) (.int .i64 x) h3 (g := tb) (.inr (by simp [Value.ownBlock]; omega)),
    h4.other h1 (by decide) hBw g1, grown_new h5 g1 (fun b hb => by cases hb; exact ht)⟩
set_option maxHeartbeats 3200000 in
set_option maxRecDepth 100000 in
theorem l3any (g B : Nat) (A : Option Addr) (n c : Nat) (zs : List Int) (w : World) (hc : CurAt w g B A n c zs) :
    Calls Tryz.prog 20 #[.pointer (some ⟨g, 0, none⟩)] w (RetA w g B A n c zs) := by
  have hBw := hc.base
  obtain ⟨wa, hwa⟩ : ∃ wa, wa = w.alloc (.cells #[.int .i64 0, .slice none 0 0] 26) := ⟨_, rfl⟩
  have hwz : wa.heap.size = w.heap.size + 1 := by rw [hwa]; simp
  have hca : CurAt wa g B A n c zs := by rw [hwa]; exact hc.below ((Below.refl _ _).alloc (Nat.le_refl _) _)
  have hres : wa.ownsRow w.heap.size 26 1 (.slice (some ⟨w.heap.size, 0, none⟩) 2 2) 2 [.int .i64 0, .slice none 0 0] := by
    rw [hwa]; exact World.ownsRow_lit (e := 26) (size := 1) w #[.int .i64 0, .slice none 0 0] 2 (Nat.le_refl _) (by unfold maxLen; omega) rfl
  have hga : w.grownBy wa (some g) := by rw [hwa]; exact World.grownBy_alloc w _ (some g)
  have hwa' := hide hwa
  clear hwa hc
  go_enter Tryz.func20, Tryz.ntmps20
  go_wp2_with fail
  rw [← hwa'.out]
  refine (l3table g B A n c zs _ hca).mono ?_
  rintro e w1 ⟨A1, N1, d1, col, zss, rfl, hc2, hc4, hN, hR1, hc1, hg1⟩
  have hres1 := hres.kept hg1 (hca.ne hres (by decide))
  have hgr1 := hga.trans hg1
  have hs1 := hgr1.size
  obtain ⟨tb, htb⟩ : ∃ tb, tb = w1.heap.size := ⟨_, rfl⟩
  have hrt : w.heap.size < tb := by rw [htb]; have := hg1.size; omega
  have htab : (w1.alloc (.cells #[.int .i64 (col : Int), .slice A1 N1 d1] 26)).ownsRow w.heap.size 26 1 (.slice (some ⟨tb, 0, none⟩) 2 2) 2 [.int .i64 (col : Int), .slice A1 N1 d1] := by
    rw [htb]; exact World.ownsRow_lit (e := 26) (size := 1) w1 #[.int .i64 (col : Int), .slice A1 N1 d1] 2 hs1 (by unfold maxLen; omega) rfl
  have hbA : Below w1.heap.size w1 (w1.alloc (.cells #[.int .i64 (col : Int), .slice A1 N1 d1] 26)) := (Below.refl _ _).alloc (Nat.le_refl _) _
  have T0 : TabI w (w1.alloc (.cells #[.int .i64 (col : Int), .slice A1 N1 d1] 26)) g B A n c zs w.heap.size tb col A1 N1 d1 zss :=
    ⟨htab, ((hR1.more (show w.heap.size ≤ wa.heap.size by omega)).below hbA).bound, own_below hres1 hbA, hc1.below hbA, grown_below hgr1 hbA⟩
  have hc1' := T0.cur
  replace T0 := hide T0
  clear htab hres1 hc1 hres hca hR1 hgr1
  go_wp2_with fail
  rw [← htb]
  replace htb := hide htb
  refine (l1below g B A n c zs 12 _ hc1').mono ?_
  rintro e w2 ⟨v, rfl, ⟨y, rfl, hy⟩, hc2', hg2⟩
  have T2 := hide (T0.out.grow hc2' hg2)
  replace hy := hide hy
  replace hc1' := hide hc1'
  replace hc2' := hide hc2'
  by_cases y0 : y = 0
  · subst y0
    have hl0 := World.ownsRow_lit (base := w2.heap.size) (e := 3) (size := 1) w2 #[.int .i64 0, .int .i64 1, .int .i64 5, .int .i64 6] 4 (Nat.le_refl _) (by unfold maxLen; omega) rfl
    have hl : (w2.alloc (.cells #[.int .i64 0, .int .i64 1, .int .i64 5, .int .i64 6] 3)).ownsRow w2.heap.size 3 1 (.slice (some ⟨w2.heap.size, 0, none⟩) 4 4) 4 (([0, 1, 5, 6] : List Int).map (Value.int .i64)) := hl0
    have T3 := hide (T2.out.below ((Below.refl _ _).alloc (Nat.le_refl _) (.cells #[.int .i64 0, .int .i64 1, .int .i64 5, .int .i64 6] 3)))
    have hpick := hide (l1pick g B A n c zs _ 4 4 _ _ _ T3.out.cur hl (by omega))
    clear hl hl0
    go_wp2_with fail
    refine hpick.out.mono ?_
    rintro e w4 ⟨v, rfl, ⟨x, hx, rfl⟩, hc4', hg4⟩
    have T4 := hide (T3.out.grow hc4' hg4)
    have ct0 : w4.cell? ⟨tb, 0, none⟩ = some (.int .i64 (col : Int)) := T4.out.tab.cellAt 0 (by omega)
    have ft0 := T4.out.tab.frozenAt 0
    have T5 := T4.out.setCol hBw (by omega) (by omega) x
    have k0 : (w4.setCell ⟨tb, 0, none⟩ (.int .i64 x)).cell? ⟨tb, 0, none⟩ = some (.int .i64 x) := T5.tab.cellAt 0 (by omega)
    have k1 : (w4.setCell ⟨tb, 0, none⟩ (.int .i64 x)).cell? ⟨tb, 1, none⟩ = some (.slice A1 N1 d1) := T5.tab.cellAt 1 (by omega)
    have cr0 : (w4.setCell ⟨tb, 0, none⟩ (.int .i64 x)).cell? ⟨w.heap.size, 0, none⟩ = some (.int .i64 0) := T5.res.cellAt 0 (by omega)
    have cr1 : (w4.setCell ⟨tb, 0, none⟩ (.int .i64 x)).cell? ⟨w.heap.size, 1, none⟩ = some (.slice none 0 0) := T5.res.cellAt 1 (by omega)
    have fr0 := T5.res.frozenAt 0
    have fr1 := T5.res.frozenAt 1
    have hfin := hide (T5.fin hBw (Nat.le_refl _))
    replace T5 := hide T5
    replace hx := hide hx
    replace hc4' := hide hc4'
    go_wp2_with fail
    obtain ⟨z0, z1, hRz, hcz, hgz⟩ := hfin.out
    refine bodyPost_ret (v := .agg #[.int .i64 x, .slice A1 N1 d1]) (by simp [results, Tryz.results20, go_sem, z0, z1]) rfl ?_
    exact ⟨A1, N1, d1, x, zss, rfl, by omega, hRz, hcz, hgz⟩
  by_cases y1 : y = 1
  · subst y1
    have T3 : TabI w w2.drew g B A n c zs w.heap.size tb col A1 N1 d1 zss := by
      obtain ⟨a1, a2, a3, a4, a5⟩ := T2.out
      exact ⟨a1, a2, a3, a4, ⟨a5.os, a5.tape, a5.output, a5.size, a5.block⟩⟩
    have hl0 := World.ownsRow_lit (base := w2.heap.size) (e := 3) (size := 1) w2.drew #[.int .i64 (-2), .int .i64 (-1), .int .i64 40, .int .i64 41] 4 (Nat.le_refl _) (by unfold maxLen; omega) rfl
    have hl : (w2.drew.alloc (.cells #[.int .i64 (-2), .int .i64 (-1), .int .i64 40, .int .i64 41] 3)).ownsRow w2.heap.size 3 1 (.slice (some ⟨w2.heap.size, 0, none⟩) 4 4) 4 (([-2, -1, 40, 41] : List Int).map (Value.int .i64)) := hl0
    have T4 := hide (T3.below ((Below.refl _ _).alloc (Nat.le_refl _) (.cells #[.int .i64 (-2), .int .i64 (-1), .int .i64 40, .int .i64 41] 3)))
    have hpick := hide (l1pick g B A n c zs _ 4 4 _ _ _ T4.out.cur hl (by omega))
    have ct1 : w2.cell? ⟨tb, 1, none⟩ = some (.slice A1 N1 d1) := T3.tab.cellAt 1 (by omega)
    have hw2s := T2.out.grown.size
    have htb2 := (T3.tab.lt tb rfl).2
    replace htb2 : tb < w2.heap.size := htb2
    replace T3 := hide T3
    clear hl hl0
    go_wp2_with fail
    go_region_law (first
      | (go_simp; go_at_call 49; refine hpick.out.mono ?_; rintro e w4 ⟨v, rfl, ⟨x, hx, rfl⟩, hc4', hg4⟩; have T5 := T4.out.grow hc4' hg4; have ct5 : w4.cell? ⟨tb, 1, none⟩ = some (.slice A1 N1 d1) := T5.tab.cellAt 1 (by omega); have htb4 : tb < w4.heap.size := (T5.tab.lt tb rfl).2; have hs5 := T5.grown.size; have hrow0 := World.ownsRow_lit (base := w.heap.size) (e := 3) (size := 1) w4 #[.int .i64 1, .int .i64 x] 2 hs5 (by unfold maxLen; omega) rfl; have hbx := (Below.refl (w4.alloc (.cells #[.int .i64 1, .int .i64 x] 3)).heap.size (w4.alloc (.cells #[.int .i64 1, .int .i64 x] 3))).alloc (Nat.le_refl _) (.cells #[.slice (some ⟨w4.heap.size, 0, none⟩) 2 2] 37); have hrow := hide (own_below hrow0 hbx); have T7 := hide ((T5.below ((Below.refl _ _).alloc (Nat.le_refl _) (.cells #[.int .i64 1, .int .i64 x] 3))).below hbx); obtain ⟨lz7, vs7, hV7⟩ := (T5.rows.below ((Below.refl _ _).alloc (Nat.le_refl _) (.cells #[.int .i64 1, .int .i64 x] 3))).below hbx; have hV71 := hide hV7.1; replace hV7 := hide hV7; replace lz7 := hide lz7; replace T5 := hide T5; replace hx := hide hx; replace hc4' := hide hc4'; clear hrow0 hbx)
      | (refine step_pushes elemS rfl (.tmp 17) (.tmp 22) _ [.slice (some ⟨w4.heap.size, 0, none⟩) 2 2] 1 rfl (by decide) rfl w.heap.size (.slice A1 N1 d1) N1 vs7 rfl (w4.heap.size + 1) 1 rfl hV71.out (by intro j u hj; have hh := cells_new (w4.alloc (.cells #[.int .i64 1, .int .i64 x] 3)) [.slice (some ⟨w4.heap.size, 0, none⟩) 2 2] 37 j u hj; rw [World.size_alloc, add_lit] at hh; exact hh) (oneCells rfl) (by omega) (by simp; omega) ?_; intro A8 c8 w8 hown8 hg8 hat8; have htab8 := hide (World.ownsRow.kept T7.out.tab hg8 (own_types T7.out.tab hV71.out (by decide))); have ct8 : w8.cell? ⟨tb, 1, none⟩ = some (.slice A1 N1 d1) := htab8.out.cellAt 1 (by omega); have ft8 := htab8.out.frozenAt 1))
    all_goals
      have hs9 := grown_setCell w8 tb 1 (.slice A8 (N1 + 1) c8)
      have T9 : TabI w (w8.setCell ⟨tb, 1, none⟩ (.slice A8 (N1 + 1) c8)) g B A n c zs w.heap.size tb col A8 (N1 + 1) c8 (zss ++ [[1, x]]) := by
        have hres8 := World.ownsRow.kept T7.out.res hg8 (own_types T7.out.res hV71.out (by decide))
        have hc8 := T7.out.cur.other hV71.out (by decide) hBw hg8
        have hR8 := RowsU.push lz7.out hV7.out (zs := [1, x]) hrow.out (fun k hk => by cases hk; exact Nat.le_refl _) hown8 hg8
        refine ⟨(htab8.out.stored 1 (.slice A8 (N1 + 1) c8)).1, (hR8.other htab8.out (by decide) (.inl (by decide)) hs9).bound, own_store (o := 1) (.slice A8 (N1 + 1) c8) hres8 (g := tb) (.inr (by simp [Value.ownBlock]; omega)), hc8.other htab8.out (by decide) hBw hs9, grown_new (grown_new T7.out.grown hg8 (fun b hb => (hV71.out.lt b hb).1)) hs9 (fun b hb => by cases hb; omega)⟩
      clear hs9 hown8 hg8 hat8 ct8 ft8
      have k0 : (w8.setCell ⟨tb, 1, none⟩ (.slice A8 (N1 + 1) c8)).cell? ⟨tb, 0, none⟩ = some (.int .i64 (col : Int)) := T9.tab.cellAt 0 (by omega)
      have k1 : (w8.setCell ⟨tb, 1, none⟩ (.slice A8 (N1 + 1) c8)).cell? ⟨tb, 1, none⟩ = some (.slice A8 (N1 + 1) c8) := T9.tab.cellAt 1 (by omega)
      have cr0 : (w8.setCell ⟨tb, 1, none⟩ (.slice A8 (N1 + 1) c8)).cell? ⟨w.heap.size, 0, none⟩ = some (.int .i64 0) := T9.res.cellAt 0 (by omega)
      have cr1 : (w8.setCell ⟨tb, 1, none⟩ (.slice A8 (N1 + 1) c8)).cell? ⟨w.heap.size, 1, none⟩ = some (.slice none 0 0) := T9.res.cellAt 1 (by omega)
      have fr0 := T9.res.frozenAt 0
      have fr1 := T9.res.frozenAt 1
      have hfin := hide (T9.fin hBw (Nat.le_refl _))
      replace T9 := hide T9
      go_wp2_with fail
      obtain ⟨z0, z1, hRz, hcz, hgz⟩ := hfin.out
      refine bodyPost_ret (v := .agg #[.int .i64 (col : Int), .slice A8 (N1 + 1) c8]) (by simp [results, Tryz.results20, go_sem, z0, z1]) rfl ?_
      exact ⟨A8, N1 + 1, c8, col, zss ++ [[1, x]], rfl, by omega, hRz, hcz, hgz⟩
  have e0 : ((y : Int) == 0) = false := by simp; omega
  have e0' : (y == 0) = false := by simp; omega
  have e1 : ((y : Int) == 1) = false := by simp; omega
  have e1' : (y == 1) = false := by simp; omega
  have ct0 : w2.cell? ⟨tb, 0, none⟩ = some (.int .i64 (col : Int)) := T2.out.tab.cellAt 0 (by omega)
  have ct1 : w2.cell? ⟨tb, 1, none⟩ = some (.slice A1 N1 d1) := T2.out.tab.cellAt 1 (by omega)
  have cr0 : w2.cell? ⟨w.heap.size, 0, none⟩ = some (.int .i64 0) := T2.out.res.cellAt 0 (by omega)
  have cr1 : w2.cell? ⟨w.heap.size, 1, none⟩ = some (.slice none 0 0) := T2.out.res.cellAt 1 (by omega)
  have fr0 := T2.out.res.frozenAt 0
  have fr1 := T2.out.res.frozenAt 1
  have hfin := hide (T2.out.fin hBw (Nat.le_refl _))
  go_wp2_with fail
  obtain ⟨z0, z1, hRz, hcz, hgz⟩ := hfin.out
  refine bodyPost_ret (v := .agg #[.int .i64 (col : Int), .slice A1 N1 d1]) (by simp [results, Tryz.results20, go_sem, z0, z1]) rfl ?_
  exact ⟨A1, N1, d1, col, zss, rfl, by omega, hRz, hcz, hgz⟩
end Go.Proofs.YtooiobcghobefaaGreatDoor
