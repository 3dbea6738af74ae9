/-
  Draws of a table and a meaning of nulls.
  Conditions: as each theorem says.
-/
import Derived.Test.YtkcckfpihpfbnaaDraw6
namespace Go.Proofs.Ytkcckfpihpfbnaa
open Go.RowKit
set_option linter.unusedVariables false

theorem TabI.setAll {w0 w : World} {g B n c ra tb N d N2 d2 : Nat} {col col2 : Int} {A A' A2 : Option Addr} {zs : List Int} {zss zss2 : List (List Int)} (h : TabI w0 w g B A n c zs ra tb col A' N d zss) (hR : RowsU w w0.heap.size w.heap.size A2 N2 d2 zss2) (hBw : B ≤ w0.heap.size) (ht : w0.heap.size ≤ tb) (hne : ra ≠ tb) :
    TabI w0 ((w.setCell ⟨tb, 0, none⟩ (.int .i64 col2)).setCell ⟨tb, 1, none⟩ (.slice A2 N2 d2)) g B A n c zs ra tb col2 A2 N2 d2 zss2 := by
  obtain ⟨h1, h2, h3, h4, h5⟩ := h
  have g1 := grown_setCell w tb 0 (.int .i64 col2)
  have g2 := grown_setCell (w.setCell ⟨tb, 0, none⟩ (.int .i64 col2)) tb 1 (.slice A2 N2 d2)
  have p1 := (h1.stored 0 (.int .i64 col2)).1
  have p2 := (p1.stored 1 (.slice A2 N2 d2)).1
  have hra : (Value.slice (some (⟨ra, 0, none⟩ : Addr)) 2 2).ownBlock = none ∨ (Value.slice (some (⟨ra, 0, none⟩ : Addr)) 2 2).ownBlock ≠ some tb := .inr (by simp [Value.ownBlock]; omega)
  exact ⟨p2, ((hR.other h1 (by decide) (.inl (by decide)) g1).other p1 (by decide) (.inl (by decide)) g2).bound,
    own_store (o := 1) (.slice A2 N2 d2) (own_store (o := 0) (.int .i64 col2) h3 (g := tb) hra) (g := tb) hra,
    (h4.other h1 (by decide) hBw g1).other p1 (by decide) hBw g2, grown_new (grown_new h5 g1 (fun b hb => by cases hb; exact ht)) g2 (fun b hb => by cases hb; exact ht)⟩
/-- A table and a number, drawn. -/
def RetM (w : World) (g B : Nat) (A : Option Addr) (n c : Nat) (zs : List Int) (e : Ending) (w' : World) : Prop :=
  ∃ (A' : Option Addr) (N d : Nat) (col m : Int) (zss : List (List Int)), e = .returned (.tuple #[.agg #[.int .i64 col, .slice A' N d], .int .i64 m]) ∧ N ≤ 13 ∧ RowsU w' w.heap.size w'.heap.size A' N d zss ∧ CurAt w' g B A n c zs ∧ w.grownBy w' (some g)
set_option maxHeartbeats 3200000 in
set_option maxRecDepth 100000 in
theorem l4draw (g B : Nat) (A : Option Addr) (n c : Nat) (zs : List Int) (w : World) (hc : CurAt w g B A n c zs) :
    Calls Try.prog 72 #[.pointer (some ⟨g, 0, none⟩)] w (RetM w g B A n c zs) := by
  have hBw := hc.base
  obtain ⟨wa, hwa⟩ : ∃ wa, wa = w.alloc (.cells #[.int .i64 0, .slice none 0 0] 26) := ⟨_, rfl⟩
  have hwz : wa.heap.size = w.heap.size + 1 := by rw [hwa]; simp
  have hca : CurAt wa g B A n c zs := by rw [hwa]; exact hc.below ((Below.refl _ _).alloc (Nat.le_refl _) _)
  have hres : wa.ownsRow w.heap.size 26 1 (.slice (some ⟨w.heap.size, 0, none⟩) 2 2) 2 [.int .i64 0, .slice none 0 0] := by
    rw [hwa]; exact World.ownsRow_lit (e := 26) (size := 1) w #[.int .i64 0, .slice none 0 0] 2 (Nat.le_refl _) (by unfold maxLen; omega) rfl
  have hga : w.grownBy wa (some g) := by rw [hwa]; exact World.grownBy_alloc w _ (some g)
  have hwa' := hide hwa
  clear hwa hc
  go_enter Try.func72, Try.ntmps72
  go_wp2_with fail
  rw [← hwa'.out]
  refine (l3table g B A n c zs _ hca).mono ?_
  rintro e w1 ⟨A1, N1, d1, col, zss, rfl, hc2, hc4, hN, hR1, hc1, hg1⟩
  have hres1 := hres.kept hg1 (hca.ne hres (by decide))
  have hgr1 := hga.trans hg1
  have hs1 := hgr1.size
  obtain ⟨tb, htb⟩ : ∃ tb, tb = w1.heap.size := ⟨_, rfl⟩
  have hrt : w.heap.size < tb := by rw [htb]; have := hg1.size; omega
  have htab : (w1.alloc (.cells #[.int .i64 (col : Int), .slice A1 N1 d1] 26)).ownsRow w.heap.size 26 1 (.slice (some ⟨tb, 0, none⟩) 2 2) 2 [.int .i64 (col : Int), .slice A1 N1 d1] := by
    rw [htb]; exact World.ownsRow_lit (e := 26) (size := 1) w1 #[.int .i64 (col : Int), .slice A1 N1 d1] 2 hs1 (by unfold maxLen; omega) rfl
  have hbA : Below w1.heap.size w1 (w1.alloc (.cells #[.int .i64 (col : Int), .slice A1 N1 d1] 26)) := (Below.refl _ _).alloc (Nat.le_refl _) _
  have T0 : TabI w (w1.alloc (.cells #[.int .i64 (col : Int), .slice A1 N1 d1] 26)) g B A n c zs w.heap.size tb col A1 N1 d1 zss :=
    ⟨htab, ((hR1.more (show w.heap.size ≤ wa.heap.size by omega)).below hbA).bound, own_below hres1 hbA, hc1.below hbA, grown_below hgr1 hbA⟩
  have hc1' := T0.cur
  replace T0 := hide T0
  clear htab hres1 hc1 hres hca hR1 hgr1
  go_wp2_with fail
  rw [← htb]
  replace htb := hide htb
  refine (l1once g B A n c zs 14 _ hc1').mono ?_
  rintro e w2 ⟨v, rfl, ⟨b, rfl⟩, hc2', hg2⟩
  have T2 := T0.out.grow hc2' hg2
  replace hc1' := hide hc1'
  replace hc2' := hide hc2'
  rcases b with _ | _
  · have hc2'' := T2.cur
    replace T2 := hide T2
    replace T0 := hide T0
    go_wp2_with fail
    refine (l1below g B A n c zs 2 _ hc2'').mono ?_
    rintro e w5 ⟨v, rfl, ⟨y, rfl, hy⟩, hc5, hg5⟩
    have T5 := hide (T2.out.grow hc5 hg5)
    replace hy := hide hy
    go_wp2_with fail
    refine (l1once g B A n c zs 20 _ hc5).mono ?_
    rintro e w6 ⟨v, rfl, ⟨b, rfl⟩, hc6, hg6⟩
    have T6 := hide (T5.out.grow hc6 hg6)
    replace hc5 := hide hc5
    rcases b with _ | _
    · replace hc6 := hide hc6
      have ct0 : w6.cell? ⟨tb, 0, none⟩ = some (.int .i64 (col : Int)) := T6.out.tab.cellAt 0 (by omega)
      have ct1 : w6.cell? ⟨tb, 1, none⟩ = some (.slice A1 N1 d1) := T6.out.tab.cellAt 1 (by omega)
      have cr0 : w6.cell? ⟨w.heap.size, 0, none⟩ = some (.int .i64 0) := T6.out.res.cellAt 0 (by omega)
      have cr1 : w6.cell? ⟨w.heap.size, 1, none⟩ = some (.slice none 0 0) := T6.out.res.cellAt 1 (by omega)
      have fr0 := T6.out.res.frozenAt 0
      have fr1 := T6.out.res.frozenAt 1
      have hfin := hide (T6.out.fin hBw (Nat.le_refl _))
      go_wp2_with fail
      obtain ⟨z0, z1, hRz, hcz, hgz⟩ := hfin.out
      refine bodyPost_ret (v := .tuple #[.agg #[.int .i64 (col : Int), .slice A1 N1 d1], .int .i64 (y : Int)]) (by simp [results, Try.results72, go_sem, z0, z1]) rfl ?_
      exact ⟨A1, N1, d1, (col : Int), _, zss, rfl, by omega, hRz, hcz, hgz⟩
    · have hl0 := World.ownsRow_lit (base := w6.heap.size) (e := 3) (size := 1) w6 #[.int .i64 (-1), .int .i64 2] 2 (Nat.le_refl _) (by unfold maxLen; omega) rfl
      have hl : (w6.alloc (.cells #[.int .i64 (-1), .int .i64 2] 3)).ownsRow w6.heap.size 3 1 (.slice (some ⟨w6.heap.size, 0, none⟩) 2 2) 2 (([-1, 2] : List Int).map (Value.int .i64)) := hl0
      have T7 := hide (T6.out.below ((Below.refl _ _).alloc (Nat.le_refl _) (.cells #[.int .i64 (-1), .int .i64 2] 3)))
      have hpick := hide (l1pick g B A n c zs _ 2 2 _ _ _ T7.out.cur hl (by omega))
      clear hl hl0
      replace hc6 := hide hc6
      go_wp2_with fail
      refine hpick.out.mono ?_
      rintro e w8 ⟨v, rfl, ⟨x, hx, rfl⟩, hc8, hg8⟩
      have T8 := hide (T7.out.grow hc8 hg8)
      replace hx := hide hx
      replace hc8 := hide hc8
      have ct0 : w8.cell? ⟨tb, 0, none⟩ = some (.int .i64 (col : Int)) := T8.out.tab.cellAt 0 (by omega)
      have ct1 : w8.cell? ⟨tb, 1, none⟩ = some (.slice A1 N1 d1) := T8.out.tab.cellAt 1 (by omega)
      have cr0 : w8.cell? ⟨w.heap.size, 0, none⟩ = some (.int .i64 0) := T8.out.res.cellAt 0 (by omega)
      have cr1 : w8.cell? ⟨w.heap.size, 1, none⟩ = some (.slice none 0 0) := T8.out.res.cellAt 1 (by omega)
      have fr0 := T8.out.res.frozenAt 0
      have fr1 := T8.out.res.frozenAt 1
      have hfin := hide (T8.out.fin hBw (Nat.le_refl _))
      go_wp2_with fail
      obtain ⟨z0, z1, hRz, hcz, hgz⟩ := hfin.out
      refine bodyPost_ret (v := .tuple #[.agg #[.int .i64 (col : Int), .slice A1 N1 d1], .int .i64 x]) (by simp [results, Try.results72, go_sem, z0, z1]) rfl ?_
      exact ⟨A1, N1, d1, (col : Int), _, zss, rfl, by omega, hRz, hcz, hgz⟩
  · have hc2'' := T2.cur
    have ct0 : w2.cell? ⟨tb, 0, none⟩ = some (.int .i64 (col : Int)) := T2.tab.cellAt 0 (by omega)
    replace T2 := hide T2
    go_wp2_with fail
    refine (l3any g B A n c zs _ hc2'').mono ?_
    rintro e w3 ⟨A3, N3, d3, col3, zss3, rfl, hN3, hR3, hc3, hg3⟩
    have T3 := T2.out.grow hc3 hg3
    have hs3 := T2.out.grown.size
    have k0 : w3.cell? ⟨tb, 0, none⟩ = some (.int .i64 (col : Int)) := T3.tab.cellAt 0 (by omega)
    have k1 : w3.cell? ⟨tb, 1, none⟩ = some (.slice A1 N1 d1) := T3.tab.cellAt 1 (by omega)
    have fk0 := T3.tab.frozenAt 0
    have fk1 := T3.tab.frozenAt 1
    have T4 := T3.setAll (col2 := col3) (hR3.more hs3) hBw (by omega) (by omega)
    have hc4 := T4.cur
    obtain ⟨w4, hw4⟩ : ∃ w4, w4 = (w3.setCell ⟨tb, 0, none⟩ (.int .i64 col3)).setCell ⟨tb, 1, none⟩ (.slice A3 N3 d3) := ⟨_, rfl⟩
    rw [← hw4] at T4 hc4
    replace T4 := hide T4
    replace T3 := hide T3
    replace hw4 := hide hw4
    replace hc3 := hide hc3
    replace hc2'' := hide hc2''
    replace hR3 := hide hR3
    replace hc4 := hide hc4
    go_wp2_with fail
    rw [← hw4.out]
    replace hc4 := hc4.out
    refine (l1below g B A n c zs 2 _ hc4).mono ?_
    rintro e w5 ⟨v, rfl, ⟨y, rfl, hy⟩, hc5, hg5⟩
    have T5 := hide (T4.out.grow hc5 hg5)
    replace hy := hide hy
    go_wp2_with fail
    refine (l1once g B A n c zs 20 _ hc5).mono ?_
    rintro e w6 ⟨v, rfl, ⟨b, rfl⟩, hc6, hg6⟩
    have T6 := hide (T5.out.grow hc6 hg6)
    replace hc5 := hide hc5
    rcases b with _ | _
    · replace hc6 := hide hc6
      have ct0 : w6.cell? ⟨tb, 0, none⟩ = some (.int .i64 col3) := T6.out.tab.cellAt 0 (by omega)
      have ct1 : w6.cell? ⟨tb, 1, none⟩ = some (.slice A3 N3 d3) := T6.out.tab.cellAt 1 (by omega)
      have cr0 : w6.cell? ⟨w.heap.size, 0, none⟩ = some (.int .i64 0) := T6.out.res.cellAt 0 (by omega)
      have cr1 : w6.cell? ⟨w.heap.size, 1, none⟩ = some (.slice none 0 0) := T6.out.res.cellAt 1 (by omega)
      have fr0 := T6.out.res.frozenAt 0
      have fr1 := T6.out.res.frozenAt 1
      have hfin := hide (T6.out.fin hBw (Nat.le_refl _))
      go_wp2_with fail
      obtain ⟨z0, z1, hRz, hcz, hgz⟩ := hfin.out
      refine bodyPost_ret (v := .tuple #[.agg #[.int .i64 col3, .slice A3 N3 d3], .int .i64 (y : Int)]) (by simp [results, Try.results72, go_sem, z0, z1]) rfl ?_
      exact ⟨A3, N3, d3, col3, _, zss3, rfl, hN3, hRz, hcz, hgz⟩
    · have hl0 := World.ownsRow_lit (base := w6.heap.size) (e := 3) (size := 1) w6 #[.int .i64 (-1), .int .i64 2] 2 (Nat.le_refl _) (by unfold maxLen; omega) rfl
      have hl : (w6.alloc (.cells #[.int .i64 (-1), .int .i64 2] 3)).ownsRow w6.heap.size 3 1 (.slice (some ⟨w6.heap.size, 0, none⟩) 2 2) 2 (([-1, 2] : List Int).map (Value.int .i64)) := hl0
      have T7 := hide (T6.out.below ((Below.refl _ _).alloc (Nat.le_refl _) (.cells #[.int .i64 (-1), .int .i64 2] 3)))
      have hpick := hide (l1pick g B A n c zs _ 2 2 _ _ _ T7.out.cur hl (by omega))
      clear hl hl0
      replace hc6 := hide hc6
      go_wp2_with fail
      refine hpick.out.mono ?_
      rintro e w8 ⟨v, rfl, ⟨x, hx, rfl⟩, hc8, hg8⟩
      have T8 := hide (T7.out.grow hc8 hg8)
      replace hx := hide hx
      replace hc8 := hide hc8
      have ct0 : w8.cell? ⟨tb, 0, none⟩ = some (.int .i64 col3) := T8.out.tab.cellAt 0 (by omega)
      have ct1 : w8.cell? ⟨tb, 1, none⟩ = some (.slice A3 N3 d3) := T8.out.tab.cellAt 1 (by omega)
      have cr0 : w8.cell? ⟨w.heap.size, 0, none⟩ = some (.int .i64 0) := T8.out.res.cellAt 0 (by omega)
      have cr1 : w8.cell? ⟨w.heap.size, 1, none⟩ = some (.slice none 0 0) := T8.out.res.cellAt 1 (by omega)
      have fr0 := T8.out.res.frozenAt 0
      have fr1 := T8.out.res.frozenAt 1
      have hfin := hide (T8.out.fin hBw (Nat.le_refl _))
      go_wp2_with fail
      obtain ⟨z0, z1, hRz, hcz, hgz⟩ := hfin.out
      refine bodyPost_ret (v := .tuple #[.agg #[.int .i64 col3, .slice A3 N3 d3], .int .i64 x]) (by simp [results, Try.results72, go_sem, z0, z1]) rfl ?_
      exact ⟨A3, N3, d3, col3, _, zss3, rfl, hN3, hRz, hcz, hgz⟩
/-- A cursor made in the call is one over code that came in. -/
theorem CurAt.lower {w w1 : World} {g B n c : Nat} {A : Option Addr} {zs : List Int} (h : CurAt w1 g B A n c zs) (hr : Reads w w.heap.size A n (zs.map (Value.int .u8))) (hb : Below w.heap.size w w1) (hB : w.heap.size ≤ B) : CurAt w1 g w.heap.size A n c zs := by
  obtain ⟨⟨i, H, h1, h2⟩, _, h4⟩ := h
  exact ⟨⟨i, H, h1, own_more h2 hB⟩, hr.below hb, h4⟩
theorem grown_of_below {w w1 : World} (hb : Below w.heap.size w w1) (r : Option Nat) : w.grownBy w1 r := ⟨hb.os, hb.tape, hb.output, hb.size, fun k hk _ => hb.block k hk⟩
theorem below_of_grown {w w1 : World} {g : Nat} (hg : w.grownBy w1 (some g)) (h : w.heap.size ≤ g) : Below w.heap.size w w1 := (Below.refl _ _).grown hg (Nat.le_refl _) fun k hk => by cases hk; exact h
/-- The result's struct filled, wherever the table's struct is read. -/
theorem TabI.fin2 {w0 w : World} {g B n c ra tb N d : Nat} {col : Int} {A A' : Option Addr} {zs : List Int} {zss : List (List Int)} (h : TabI w0 w g B A n c zs ra tb col A' N d zss) (hBw : B ≤ w0.heap.size) (hra : w0.heap.size ≤ ra) (hne : ra ≠ tb) :
    ((w.setCell ⟨ra, 0, none⟩ (.int .i64 col)).setCell ⟨ra, 1, none⟩ (.slice A' N d)).ownsRow w0.heap.size 26 1 (.slice (some ⟨ra, 0, none⟩) 2 2) 2 [.int .i64 col, .slice A' N d] := by
  have p1 := (h.res.stored 0 (.int .i64 col)).1
  exact (p1.stored 1 (.slice A' N d)).1
set_option maxHeartbeats 3200000 in
set_option maxRecDepth 100000 in
theorem drawDiff (A : Option Addr) (n c : Nat) (zs : List Int) (w : World) (hr : Reads w w.heap.size A n (zs.map (Value.int .u8))) (hz : ∀ z ∈ zs, 0 ≤ z ∧ z ≤ 255) (hnb : n ≤ 1048576) :
    Calls Try.prog 16 #[.slice A n c] w fun e w' => ∃ (A' : Option Addr) (N d : Nat) (col m x : Int) (zss : List (List Int)), e = .returned (.tuple #[.agg #[.int .i64 col, .slice A' N d], .int .i64 m, .int .i64 x]) ∧ N ≤ 13 ∧ RowsU w' w.heap.size w'.heap.size A' N d zss ∧ Below w.heap.size w w' := by
  replace hz := hide hz
  obtain ⟨wa, hwa⟩ : ∃ wa, wa = w.alloc (.cells #[.int .i64 0, .slice none 0 0] 26) := ⟨_, rfl⟩
  have hwz : wa.heap.size = w.heap.size + 1 := by rw [hwa]; simp
  have hba : Below w.heap.size w wa := by rw [hwa]; exact (Below.refl _ _).alloc (Nat.le_refl _) _
  have hres : wa.ownsRow w.heap.size 26 1 (.slice (some ⟨w.heap.size, 0, none⟩) 2 2) 2 [.int .i64 0, .slice none 0 0] := by
    rw [hwa]; exact World.ownsRow_lit (e := 26) (size := 1) w #[.int .i64 0, .slice none 0 0] 2 (Nat.le_refl _) (by unfold maxLen; omega) rfl
  have hra : Reads wa wa.heap.size A n (zs.map (Value.int .u8)) := (hr.below hba).more hba.size
  have hwa' := hide hwa
  clear hwa
  go_enter Try.func16, Try.ntmps16
  go_wp2_with fail
  rw [← hwa'.out]
  refine (l1new A n c zs _ hra hz.out hnb).mono ?_
  rintro e w1 ⟨g, rfl, hc1, hb1⟩
  have hgw : w.heap.size ≤ g := by obtain ⟨⟨i, H, _, h2⟩, _, _⟩ := hc1; have := (h2.lt g rfl).1; omega
  have hres1 := own_below hres hb1
  have hbw1 : Below w.heap.size w w1 := hba.trans (hb1.mono (by omega))
  have hc1' := hc1.lower hr hbw1 (by omega)
  replace hc1 := hide hc1
  replace hres := hide hres
  replace hr := hide hr
  replace hra := hide hra
  go_wp2_with fail
  refine (l4draw g _ A n c zs _ hc1').mono ?_
  rintro e w2 ⟨A1, N1, d1, col, m, zss, rfl, hN, hR1, hc2, hg2⟩
  have hres2 := hres1.kept hg2 (hc1'.ne hres1 (by decide))
  have hgr2 := (grown_of_below hbw1 (some g)).trans hg2
  have hs1 := hbw1.size
  have hs2 := hgr2.size
  obtain ⟨tb, htb⟩ : ∃ tb, tb = w2.heap.size := ⟨_, rfl⟩
  have hrt : w.heap.size < tb := by rw [htb]; have := hg2.size; have := hb1.size; omega
  have htab : (w2.alloc (.cells #[.int .i64 col, .slice A1 N1 d1] 26)).ownsRow w.heap.size 26 1 (.slice (some ⟨tb, 0, none⟩) 2 2) 2 [.int .i64 col, .slice A1 N1 d1] := by
    rw [htb]; exact World.ownsRow_lit (e := 26) (size := 1) w2 #[.int .i64 col, .slice A1 N1 d1] 2 hs2 (by unfold maxLen; omega) rfl
  have hbA : Below w2.heap.size w2 (w2.alloc (.cells #[.int .i64 col, .slice A1 N1 d1] 26)) := (Below.refl _ _).alloc (Nat.le_refl _) _
  have T0 : TabI w (w2.alloc (.cells #[.int .i64 col, .slice A1 N1 d1] 26)) g w.heap.size A n c zs w.heap.size tb col A1 N1 d1 zss :=
    ⟨htab, ((hR1.more hs1).below hbA).bound, own_below hres2 hbA, hc2.below hbA, grown_below hgr2 hbA⟩
  obtain ⟨w3, hw3⟩ : ∃ w3, w3 = (w2.alloc (.cells #[.int .i64 col, .slice A1 N1 d1] 26)) := ⟨_, rfl⟩
  rw [← hw3] at T0
  clear htab hbA hR1 hgr2 hres2 hres1 hg2 hc2 hc1' hbw1 hba hb1
  have T0' := hide T0
  have ct0 : w3.cell? ⟨tb, 0, none⟩ = some (.int .i64 col) := T0.tab.cellAt 0 (by omega)
  have ct1 : w3.cell? ⟨tb, 1, none⟩ = some (.slice A1 N1 d1) := T0.tab.cellAt 1 (by omega)
  have cr0 : w3.cell? ⟨w.heap.size, 0, none⟩ = some (.int .i64 0) := T0.res.cellAt 0 (by omega)
  have cr1 : w3.cell? ⟨w.heap.size, 1, none⟩ = some (.slice none 0 0) := T0.res.cellAt 1 (by omega)
  have fr0 := T0.res.frozenAt 0
  have fr1 := T0.res.frozenAt 1
  clear T0
  replace hw3 := hide hw3
  replace htb := hide htb
  go_wp2_with fail
  rw [← hw3.out, ← htb.out]
  have TD : TabI w w3.drew g w.heap.size A n c zs w.heap.size tb col A1 N1 d1 zss := by
    obtain ⟨a1, a2, a3, a4, a5⟩ := T0'.out
    exact ⟨a1, a2, a3, a4, ⟨a5.os, a5.tape, a5.output, a5.size, a5.block⟩⟩
  replace TD := hide TD
  go_region_law (first
    | (go_simp; go_at_call 73; refine (l1below g _ A n c zs 6 _ TD.out.cur).mono ?_; rintro e w5 ⟨v, rfl, ⟨y, rfl, hy⟩, hc5, hg5⟩; have T5 := TD.out.grow hc5 hg5; have qt0 : w5.cell? ⟨tb, 0, none⟩ = some (.int .i64 col) := T5.tab.cellAt 0 (by omega); have qt1 : w5.cell? ⟨tb, 1, none⟩ = some (.slice A1 N1 d1) := T5.tab.cellAt 1 (by omega); have qr0 : w5.cell? ⟨w.heap.size, 0, none⟩ = some (.int .i64 0) := T5.res.cellAt 0 (by omega); have qr1 : w5.cell? ⟨w.heap.size, 1, none⟩ = some (.slice none 0 0) := T5.res.cellAt 1 (by omega); have gr0 := T5.res.frozenAt 0; have gr1 := T5.res.frozenAt 1; have hy6 : (y : Int) < 6 := hy (by omega); have hfin := hide (T5.fin (Nat.le_refl _) (Nat.le_refl _)); replace hy := hide hy; replace hc5 := hide hc5; replace T5 := hide T5))
  all_goals
    go_wp2_with fail
    obtain ⟨z0, z1, hRz, hcz, hgz⟩ := hfin.out
    have hwp : IntKind.i64.wrap ((y : Int) - 1) = (y : Int) - 1 := IntWalk.i64_in _ (by omega)
    refine bodyPost_ret (v := .tuple #[.agg #[.int .i64 col, .slice A1 N1 d1], .int .i64 m, .int .i64 ((y : Int) - 1)]) (by simp [results, Try.results16, go_sem, z0, z1, hwp]) rfl ?_
    exact ⟨A1, N1, d1, col, m, _, zss, rfl, hN, hRz, below_of_grown hgz hgw⟩
end Go.Proofs.Ytkcckfpihpfbnaa
