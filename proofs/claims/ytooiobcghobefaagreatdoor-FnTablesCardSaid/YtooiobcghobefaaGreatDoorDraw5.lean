/-
  Draws of rows and tables.
  Conditions: as each theorem says.
-/
import Derived.Test.YtooiobcghobefaaGreatDoorDraw4
import Derived.Test.YtooiobcghobefaaGreatDoorRowsU
import Derived.Test.YtooiobcghobefaaGreatDoorDist
namespace Go.Proofs.YtooiobcghobefaaGreatDoor
open Go.RowKit
set_option linter.unusedVariables false

/-- A row of m numbers, drawn. -/
def RetR (m : Nat) (w : World) (g B : Nat) (A : Option Addr) (n c : Nat) (zs : List Int) (e : Ending) (w' : World) : Prop :=
  ∃ (A' : Option Addr) (d : Nat) (xs : List Int), e = .returned (.slice A' m d) ∧ w'.ownsRow w.heap.size 3 1 (.slice A' m d) m (xs.map (Value.int .i64)) ∧ CurAt w' g B A n c zs ∧ w.grownBy w' (some g)
set_option maxHeartbeats 1600000 in
set_option maxRecDepth 100000 in
theorem l3row (m : Nat) (wide : Int) (g B : Nat) (A : Option Addr) (n c : Nat) (zs : List Int) (w : World) (hm : m ≤ 100) (hc : CurAt w g B A n c zs) :
    Calls Tryz.prog 65 #[.pointer (some ⟨g, 0, none⟩), .int .i64 (m : Int), .int .i64 wide] w (RetR m w g B A n c zs) := by
  have hBw := hc.base
  have hca : CurAt (w.alloc (.cells #[] 3)) g B A n c zs := hc.below ((Below.refl _ _).alloc (Nat.le_refl _) _)
  have hst : (w.alloc (.cells #[] 3)).ownsRow w.heap.size 3 1 (.slice (some ⟨w.heap.size, 0, none⟩) 0 0) 0 (([] : List Int).map (Value.int .i64)) := own_start w _
  have hga := World.grownBy_alloc w (.cells #[] 3) (some g)
  replace hc := hide hc
  go_enter Tryz.func65, Tryz.ntmps65
  go_wp2_with fail
  go_loopw [7, 8, 9] (fun out i _ wr => ∃ (k d : Nat) (A' : Option Addr) (xs : List Int), k ≤ m ∧ i = .int .i64 (k : Int) ∧ out = .slice A' k d ∧ wr.ownsRow w.heap.size 3 1 (.slice A' k d) k (xs.map (Value.int .i64)) ∧ CurAt wr g B A n c zs ∧ w.grownBy wr (some g)) (fun _ i _ _ => m - (intOf i).toNat)
  case atStart => exact ⟨0, 0, _, [], by omega, rfl, rfl, hst, hca, hga⟩
  case round =>
    clear hst hca hga
    obtain ⟨k, d, A', xs, hk, rfl, rfl, hown, hcr, hg⟩ := hrel
    have hsz := hg.size
    by_cases hlt : k < m
    · have hown' := hide hown
      clear hown
      go_wp2_with fail
      refine (l1below g B A n c zs wide _ hcr).mono ?_
      rintro e w2 ⟨v, rfl, ⟨x, rfl, hx⟩, hc2, hg2⟩
      have hown2 := hown'.out.kept hg2 (hcr.ne hown'.out (by decide))
      have hgr2 := hg.trans hg2
      replace hcr := hide hcr
      replace hx := hide hx
      have hown2' := hide hown2
      clear hown2
      go_wp2_with fail
      refine (l1once g B A n c zs 12 _ hc2).mono ?_
      rintro e w3 ⟨v, rfl, ⟨b, rfl⟩, hc3, hg3⟩
      have hown3 := hown2'.out.kept hg3 (hc2.ne hown2'.out (by decide))
      have hgr3 := hgr2.trans hg3
      have hs3 := hgr3.size
      replace hc2 := hide hc2
      rcases b with _ | _
      · go_wp2_with (at_builtin; refine wpList_push elemInt rfl (.tmp 21) (.tmp 23) w3 (.int .i64 (x : Int)) rfl w.heap.size (.slice A' k d) k _ rfl rfl hown3 rfl (by omega) (by omega) ?_; intro A4 c4 w4 hown4 hg4 hat4)
        have hgr4 := grown_new hgr3 hg4 (fun b hb => (hown3.lt b hb).1)
        have hc4 := hc3.other hown3 (by decide) hBw hg4
        replace hc3 := hide hc3
        replace hc4 := hide hc4
        clear hat4
        go_wp2_with fail
        go_roundw
        case rel => exact ⟨k + 1, c4, A4, xs ++ [(x : Int)], by omega, by go_num, rfl, by rw [List.map_append]; exact hown4, hc4.out, hgr4⟩
        case measure => simp [intOf]; omega
      · go_wp2_with (at_builtin; refine wpList_push elemInt rfl (.tmp 21) (.tmp 23) w3 (.int .i64 (-1)) rfl w.heap.size (.slice A' k d) k _ rfl rfl hown3 rfl (by omega) (by omega) ?_; intro A4 c4 w4 hown4 hg4 hat4)
        have hgr4 := grown_new hgr3 hg4 (fun b hb => (hown3.lt b hb).1)
        have hc4 := hc3.other hown3 (by decide) hBw hg4
        replace hc3 := hide hc3
        replace hc4 := hide hc4
        clear hat4
        go_wp2_with fail
        go_roundw
        case rel => exact ⟨k + 1, c4, A4, xs ++ [-1], by omega, by go_num, rfl, by rw [List.map_append]; exact hown4, hc4.out, hgr4⟩
        case measure => simp [intOf]; omega
    · obtain rfl : k = m := by omega
      replace hown := hide hown
      replace hcr := hide hcr
      go_wp2_with fail
      go_ret
      exact ⟨A', d, xs, rfl, hown.out, hcr.out, hg⟩
/-- Where the call's own memory begins, a list not empty has its address. -/
theorem own_addr {w : World} {B e n c : Nat} {A : Option Addr} {xs : List Value} (h : w.ownsRow B e 1 (.slice A n c) n xs) (hn : 0 < n) : ∃ b, A = some ⟨b, 0, none⟩ := by
  rcases h.2 with ⟨hv, h0⟩ | ⟨g', cap, cur, hv, _⟩
  · omega
  · cases hv; exact ⟨_, rfl⟩
theorem rowsU_nil (w : World) (B H : Nat) : RowsU w B H none 0 0 [] := ⟨rfl, [], World.ownsRow_nil _ _ _ _, (fun i zs hi => by simp at hi), (fun i j u v _ hu => by simp at hu)⟩
theorem RowsU.cur {w w' : World} {B B' H n c g m d : Nat} {A A' : Option Addr} {zss : List (List Int)} {zs : List Int} (h : RowsU w B H A n c zss) (hc : CurAt w g B' A' m d zs) (hg : w.grownBy w' (some g)) : RowsU w' B H A n c zss := by
  obtain ⟨⟨i, Hh, _, h2⟩, _, _⟩ := hc
  exact h.other h2 (by decide) (.inl (by decide)) hg
/-- What a drawn table leaves: its struct in block tb, its rows. -/
structure TabAt (w0 w : World) (g B : Nat) (A : Option Addr) (n c : Nat) (zs : List Int) (ra tb col : Nat) (N : Nat) : Prop where
  some_ : ∃ (A' : Option Addr) (d : Nat) (zss : List (List Int)), w.ownsRow w0.heap.size 26 1 (.slice (some ⟨tb, 0, none⟩) 2 2) 2 [.int .i64 (col : Int), .slice A' N d] ∧ RowsU w w0.heap.size w.heap.size A' N d zss
  res : w.ownsRow w0.heap.size 26 1 (.slice (some ⟨ra, 0, none⟩) 2 2) 2 [.int .i64 0, .slice none 0 0]
  cur : CurAt w g B A n c zs
  grown : w0.grownBy w (some g)
theorem TabAt.grow {w0 w w' : World} {g B n c ra tb col N : Nat} {A : Option Addr} {zs : List Int} (h : TabAt w0 w g B A n c zs ra tb col N) (hc : CurAt w' g B A n c zs) (hg : w.grownBy w' (some g)) : TabAt w0 w' g B A n c zs ra tb col N := by
  obtain ⟨⟨A', d, zss, h1, h2⟩, h3, h4, h5⟩ := h
  exact ⟨⟨A', d, zss, h1.kept hg (h4.ne h1 (by decide)), (h2.cur h4 hg).bound⟩, h3.kept hg (h4.ne h3 (by decide)), hc, h5.trans hg⟩
theorem TabAt.below {w0 w w' : World} {g B n c ra tb col N : Nat} {A : Option Addr} {zs : List Int} (h : TabAt w0 w g B A n c zs ra tb col N) (hb : Below w.heap.size w w') : TabAt w0 w' g B A n c zs ra tb col N := by
  obtain ⟨⟨A', d, zss, h1, h2⟩, h3, h4, h5⟩ := h
  exact ⟨⟨A', d, zss, own_below h1 hb, (h2.below hb).bound⟩, own_below h3 hb, h4.below hb, grown_below h5 hb⟩
/-- A table, drawn: its rows are the call's own. -/
def RetT (w : World) (g B : Nat) (A : Option Addr) (n c : Nat) (zs : List Int) (e : Ending) (w' : World) : Prop :=
  ∃ (A' : Option Addr) (N d col : Nat) (zss : List (List Int)), e = .returned (.agg #[.int .i64 (col : Int), .slice A' N d]) ∧ 2 ≤ col ∧ col ≤ 4 ∧ N ≤ 12 ∧ RowsU w' w.heap.size w'.heap.size A' N d zss ∧ CurAt w' g B A n c zs ∧ w.grownBy w' (some g)
set_option maxHeartbeats 3200000 in
set_option maxRecDepth 100000 in
theorem l3table (g B : Nat) (A : Option Addr) (n c : Nat) (zs : List Int) (w : World) (hc : CurAt w g B A n c zs) :
    Calls Tryz.prog 48 #[.pointer (some ⟨g, 0, none⟩)] w (RetT w g B A n c zs) := by
  have hBw := hc.base
  obtain ⟨wa, hwa⟩ : ∃ wa, wa = w.alloc (.cells #[.int .i64 0, .slice none 0 0] 26) := ⟨_, rfl⟩
  have hwz : wa.heap.size = w.heap.size + 1 := by rw [hwa]; simp
  have hca : CurAt wa g B A n c zs := by rw [hwa]; exact hc.below ((Below.refl _ _).alloc (Nat.le_refl _) _)
  have hres : wa.ownsRow w.heap.size 26 1 (.slice (some ⟨w.heap.size, 0, none⟩) 2 2) 2 [.int .i64 0, .slice none 0 0] := by
    rw [hwa]; exact World.ownsRow_lit (e := 26) (size := 1) w #[.int .i64 0, .slice none 0 0] 2 (Nat.le_refl _) (by unfold maxLen; omega) rfl
  have hga : w.grownBy wa (some g) := by rw [hwa]; exact World.grownBy_alloc w _ (some g)
  have hwa' := hide hwa
  clear hwa hc
  go_enter Tryz.func48, Tryz.ntmps48
  go_wp2_with fail
  rw [← hwa'.out]
  refine (l1below g B A n c zs 3 _ hca).mono ?_
  rintro e w1 ⟨v, rfl, ⟨x, rfl, hx⟩, hc1, hg1⟩
  have hx3 : (x : Int) < 3 := hx (by omega)
  obtain ⟨col, hcol⟩ : ∃ col : Nat, col = 2 + x := ⟨_, rfl⟩
  have hcolI := hide (show 2 + (x : Int) = (col : Int) by omega)
  have hcol4 : 2 ≤ col ∧ col ≤ 4 := by omega
  replace hcol := hide hcol
  have hres1 := hres.kept hg1 (hca.ne hres (by decide))
  have hgr1 := hga.trans hg1
  have hs1 := hgr1.size
  replace hx := hide hx
  replace hca := hide hca
  replace hres := hide hres
  go_wp2_with fail
  rw [hcolI.out]
  obtain ⟨tb, htb⟩ : ∃ tb, tb = w1.heap.size := ⟨_, rfl⟩
  have hrt : w.heap.size < tb := by rw [htb]; have := hg1.size; omega
  have htab : (w1.alloc (.cells #[.int .i64 (col : Int), .slice none 0 0] 26)).ownsRow w.heap.size 26 1 (.slice (some ⟨tb, 0, none⟩) 2 2) 2 [.int .i64 (col : Int), .slice none 0 0] := by
    rw [htb]; exact World.ownsRow_lit (e := 26) (size := 1) w1 #[.int .i64 (col : Int), .slice none 0 0] 2 hs1 (by unfold maxLen; omega) rfl
  have hbA : Below w1.heap.size w1 (w1.alloc (.cells #[.int .i64 (col : Int), .slice none 0 0] 26)) := (Below.refl _ _).alloc (Nat.le_refl _) _
  have T0 : TabAt w (w1.alloc (.cells #[.int .i64 (col : Int), .slice none 0 0] 26)) g B A n c zs w.heap.size tb col 0 :=
    ⟨⟨none, 0, [], htab, rowsU_nil _ _ _⟩, own_below hres1 hbA, hc1.below hbA, grown_below hgr1 hbA⟩
  have hc1' := T0.cur
  replace htab := hide htab
  replace hres1 := hide hres1
  replace hc1 := hide hc1
  replace T0 := hide T0
  rw [← htb]
  replace htb := hide htb
  refine (l1below g B A n c zs 3 _ hc1').mono ?_
  rintro e w2 ⟨v, rfl, ⟨y, rfl, hy⟩, hc2, hg2⟩
  have hy3 : (y : Int) < 3 := hy (by omega)
  replace hy := hide hy
  have T2 := hide (T0.out.grow hc2 hg2)
  obtain ⟨W, hW⟩ : ∃ W : Int, 2 + (y : Int) = W := ⟨_, rfl⟩
  replace hW := hide hW
  replace hc1' := hide hc1'
  go_wp2_with fail
  rw [hW.out]
  refine (l1below g B A n c zs 7 _ hc2).mono ?_
  rintro e w3 ⟨v, rfl, ⟨t, rfl, ht⟩, hc3, hg3⟩
  have ht7 : (t : Int) < 7 := ht (by omega)
  replace ht := hide ht
  have T3 := hide (T2.out.grow hc3 hg3)
  replace hc2 := hide hc2
  replace hc3 := hide hc3
  go_wp2_with fail
  go_loopw [5, 6, 7] (fun i _ _ wr => ∃ k N : Nat, i = .int .i64 (k : Int) ∧ k ≤ 6 ∧ N + 2 * k ≤ 12 ∧ TabAt w wr g B A n c zs w.heap.size tb col N) (fun i _ _ _ => (intOf i).toNat)
  case atStart => exact ⟨t, 0, rfl, by omega, by omega, T3.out⟩
  case round =>
    clear T0 T2 T3 hc1 hc2 hc3 hc1'
    obtain ⟨k, N, rfl, hk6, hN, T⟩ := hrel
    obtain ⟨⟨A', d, zss, htabr, hR⟩, hresr, hcr, hgr⟩ := T
    have hsr := hgr.size
    have ct0 : wr.cell? ⟨tb, 0, none⟩ = some (.int .i64 (col : Int)) := htabr.cellAt 0 (by omega)
    have ct1 : wr.cell? ⟨tb, 1, none⟩ = some (.slice A' N d) := htabr.cellAt 1 (by omega)
    rcases Nat.eq_zero_or_pos k with h0 | h0
    · subst h0
      have cr0 : wr.cell? ⟨w.heap.size, 0, none⟩ = some (.int .i64 0) := hresr.cellAt 0 (by omega)
      have cr1 : wr.cell? ⟨w.heap.size, 1, none⟩ = some (.slice none 0 0) := hresr.cellAt 1 (by omega)
      have fr0 := hresr.frozenAt 0
      have fr1 := hresr.frozenAt 1
      have hR0 := hide hR
      have hc0 := hide hcr
      have hres0 := hide hresr
      have htab0 := hide htabr
      clear hR hcr hresr htabr
      have g1 := grown_setCell wr w.heap.size 0 (.int .i64 (col : Int))
      have g2 := grown_setCell (wr.setCell ⟨w.heap.size, 0, none⟩ (.int .i64 (col : Int))) w.heap.size 1 (.slice A' N d)
      have p1 := (hres0.out.stored 0 (.int .i64 (col : Int))).1
      have p2 := (p1.stored 1 (.slice A' N d)).1
      have z0 := p2.cellAt 0 (by omega)
      have z1 := p2.cellAt 1 (by omega)
      have hR1 := hR0.out.other hres0.out (by decide) (.inl (by decide)) g1
      have hR2 := (hR1.other p1 (by decide) (.inl (by decide)) g2).bound
      have hc1 := hc0.out.other hres0.out (by decide) hBw g1
      have hc2 := hc1.other p1 (by decide) hBw g2
      have hg1 := grown_new hgr g1 (fun b hb => by cases hb; exact Nat.le_refl _)
      have hg2 := grown_new hg1 g2 (fun b hb => by cases hb; exact Nat.le_refl _)
      have z0' : ((wr.setCell ⟨w.heap.size, 0, none⟩ (.int .i64 (col : Int))).setCell ⟨w.heap.size, 1, none⟩ (.slice A' N d)).cell? ⟨w.heap.size, 0, none⟩ = some (.int .i64 (col : Int)) := z0
      have z1' : ((wr.setCell ⟨w.heap.size, 0, none⟩ (.int .i64 (col : Int))).setCell ⟨w.heap.size, 1, none⟩ (.slice A' N d)).cell? ⟨w.heap.size, 1, none⟩ = some (.slice A' N d) := z1
      clear z0 z1
      obtain ⟨wz, hwz2⟩ : ∃ wz, wz = (wr.setCell ⟨w.heap.size, 0, none⟩ (.int .i64 (col : Int))).setCell ⟨w.heap.size, 1, none⟩ (.slice A' N d) := ⟨_, rfl⟩
      rw [← hwz2] at z0' z1' hR2 hc2 hg2
      have hwz3 := hide hwz2
      replace p2 := hide p2
      replace p1 := hide p1
      have hR3 := hide hR2
      have hc3 := hide hc2
      have hg3 := hide hg2
      have z0h := hide z0'
      have z1h := hide z1'
      clear hR1 hR2 hc1 hc2 hg1 hg2 g1 g2 hwz2 z0' z1'
      go_wp2_with fail
      rw [← hwz3.out]
      have z0 := z0h.out
      have z1 := z1h.out
      refine bodyPost_ret (v := .agg #[.int .i64 (col : Int), .slice A' N d]) (by simp [results, Tryz.results48, go_sem, z0, z1]) rfl ?_
      exact ⟨A', N, d, col, zss, rfl, hcol4.1, hcol4.2, by omega, hR3.out, hc3.out, hg3.out⟩
    · have d1 : decide ((0 : Int) < (k : Int)) = true := by simp; omega
      have d1' : decide (0 < k) = true := by simp; omega
      obtain ⟨k, rfl⟩ : ∃ q, k = q + 1 := ⟨k - 1, by omega⟩
      replace htabr := hide htabr
      replace hR := hide hR
      replace hresr := hide hresr
      go_wp2_with fail
      refine (l3row col W g B A n c zs _ (by omega) hcr).mono ?_
      rintro e w4 ⟨Ar, dr, xs, rfl, hrow, hc4, hg4⟩
      have htab4 := htabr.out.kept hg4 (hcr.ne htabr.out (by decide))
      have hR4 := hR.out.cur hcr hg4
      have hres4 := hresr.out.kept hg4 (hcr.ne hresr.out (by decide))
      have hgr4 := hgr.trans hg4
      have hs4 := hgr4.size
      have ct0 : w4.cell? ⟨tb, 0, none⟩ = some (.int .i64 (col : Int)) := htab4.cellAt 0 (by omega)
      have ct1 : w4.cell? ⟨tb, 1, none⟩ = some (.slice A' N d) := htab4.cellAt 1 (by omega)
      obtain ⟨lz, vs, hV⟩ := hR4
      have hV1 := hV.1
      replace hcr := hide hcr
      replace hV := hide hV
      replace lz := hide lz
      replace htab4 := hide htab4
      replace hres4 := hide hres4
      replace hrow := hide hrow
      replace hc4 := hide hc4
      go_wp2_with (at_builtin; refine wpList_push elemS rfl (.tmp 27) (.tmp 29) w4 (.slice Ar col dr) rfl w.heap.size (.slice A' N d) N _ rfl rfl hV1 rfl (by omega) hs4 ?_; intro A5 c5 w5 hown5 hg5 hat5; have htab5 := World.ownsRow.kept htab4.out hg5 (own_types htab4.out hV1 (by decide)); have ct5 : w5.cell? ⟨tb, 1, none⟩ = some (.slice A' N d) := htab5.cellAt 1 (by omega); have ft5 := htab5.frozenAt 1)
      obtain ⟨w6, hw6⟩ : ∃ w6, w6 = w5.setCell ⟨tb, 1, none⟩ (.slice A5 (N + 1) c5) := ⟨_, rfl⟩
      have hs6 := grown_setCell w5 tb 1 (.slice A5 (N + 1) c5)
      have htab6 := (htab5.stored 1 (.slice A5 (N + 1) c5)).1
      have hR5 := RowsU.push lz.out hV.out (own_more hrow.out hsr) (fun k hk => (hrow.out.lt k hk).1) hown5 hg5
      have hR6 := (hR5.other htab5 (by decide) (.inl (by decide)) hs6).bound
      have hres5 := World.ownsRow.kept hres4.out hg5 (own_types hres4.out hV1 (by decide))
      have hres6 := own_store (o := 1) (.slice A5 (N + 1) c5) hres5 (g := tb) (.inr (by simp [Value.ownBlock]; omega))
      have hc5 := hc4.out.other hV1 (by decide) hBw hg5
      have hc6 := hc5.other htab5 (by decide) hBw hs6
      have hgr5 := grown_new hgr4 hg5 (fun b hb => (hV1.lt b hb).1)
      have hgr6 := grown_new hgr5 hs6 (fun b hb => by cases hb; omega)
      have hrow5 := World.ownsRow.kept hrow.out hg5 (own_types hrow.out hV1 (by decide))
      have hrow6 := own_store (o := 1) (.slice A5 (N + 1) c5) hrow5 (own_types hrow5 htab5 (by decide))
      rw [← hw6] at htab6 hR6 hres6 hc6 hgr6 hrow6
      rw [← hw6]
      have T6 : TabAt w w6 g B A n c zs w.heap.size tb col (N + 1) := ⟨⟨A5, c5, _, htab6, hR6⟩, hres6, hc6, hgr6⟩
      replace T6 := hide T6
      replace hrow6 := hide hrow6
      clear hw6 hs6 htab6 hR5 hR6 hres5 hres6 hc5 hgr5 hgr6 hrow5 ct5 ft5 htab5 hown5 hg5 hat5 hV1 ct0 ct1 hs4 hgr4 hc4 hrow htab4 hres4 hg4
      refine (l1once g B A n c zs 3 _ hc6).mono ?_
      rintro e w7 ⟨v, rfl, ⟨b, rfl⟩, hc7, hg7⟩
      have T7 := hide (T6.out.grow hc7 hg7)
      have hrow7 := hide (hrow6.out.kept hg7 (hc6.ne hrow6.out (by decide)))
      replace hc6 := hide hc6
      replace hc7 := hide hc7
      rcases b with _ | _
      · go_wp2_with fail
        go_roundw
        case rel => exact ⟨k, N + 1, by go_num, by omega, by omega, T7.out⟩
        case measure => simp [intOf]
      · obtain ⟨⟨A7, d7, zss7, htab7, hR7⟩, hres7, hc7', hgr7⟩ := T7.out
        replace htab7 := hide htab7
        replace hR7 := hide hR7
        replace hres7 := hide hres7
        have hrd := ((Reads.of_own hrow7.out).alloc (Nat.le_refl _) (.cells #[] 3)).more (B' := (w7.alloc (.cells #[] 3)).heap.size) (by simp)
        have hcp := own_cap hrow7.out
        have hoc := hide (show ∀ u ∈ xs.map (Value.int .i64), u.oneCell' = true from fun u hu => by obtain ⟨x, _, rfl⟩ := List.mem_map.1 hu; rfl)
        replace hcp := hide hcp
        replace hrd := hide hrd
        go_wp2_with (at_builtin; refine wpList_spread elemI rfl (.tmp 34) (.tmp 35) (w7.alloc (.cells #[] 3)) Ar col dr _ hrd.out hcp.out rfl w7.heap.size (.slice (some ⟨w7.heap.size, 0, none⟩) 0 0) 0 [] rfl rfl (own_start w7 _) hoc.out (by omega) (by simp) ?_; intro Ax cx w8 hownx hgx; have hb8 := below_push ((Below.refl w7.heap.size w7).alloc (Nat.le_refl _) _) (by simp) (own_start w7 3) hgx; have htab8 := own_below htab7.out hb8; have ct8 : w8.cell? ⟨tb, 0, none⟩ = some (.int .i64 (col : Int)) := htab8.cellAt 0 (by omega); replace htab8 := hide htab8)
        have hR8 := hR7.out.below hb8
        have hres8 := own_below hres7.out hb8
        have hc8 := hc7'.below hb8
        have hgr8 := grown_below hgr7 hb8
        rw [List.nil_append, Nat.zero_add] at hownx
        have hs8 := hb8.size
        have hs7 := hgr7.size
        refine (l1below g B A n c zs col _ hc8).mono ?_
        rintro e w9 ⟨v, rfl, ⟨i0, rfl, hi0⟩, hc9, hg9⟩
        have hi0c : i0 < col := by have := hi0 (by omega); omega
        have htab9 := hide (htab8.out.kept hg9 (hc8.ne htab8.out (by decide)))
        have hR9 := hide (hR8.cur hc8 hg9)
        have hres9 := hide (hres8.kept hg9 (hc8.ne hres8 (by decide)))
        have hx9 := hide (hownx.kept hg9 (hc8.ne hownx (by decide)))
        have hgr9 := hgr8.trans hg9
        replace hi0 := hide hi0
        clear hR8 hres8 hc8 hgr8 hownx hg9 ct8 hgx hb8
        go_wp2_with fail
        refine (l1below g B A n c zs W _ hc9).mono ?_
        rintro e w10 ⟨v, rfl, ⟨v0, rfl, hv0⟩, hc10, hg10⟩
        have htab10 := htab9.out.kept hg10 (hc9.ne htab9.out (by decide))
        have hR10 := hR9.out.cur hc9 hg10
        have hres10 := hres9.out.kept hg10 (hc9.ne hres9.out (by decide))
        have hx10 := hx9.out.kept hg10 (hc9.ne hx9.out (by decide))
        have hgr10 := hgr9.trans hg10
        obtain ⟨gx, hgxe⟩ := own_addr hx10 (by omega)
        subst hgxe
        have hgx7 := (hx10.lt gx rfl).1
        obtain ⟨tv, ctx⟩ := cell_own hx10 hi0c
        have ftx := hx10.frozenAt i0
        have hsx := grown_setCell w10 gx i0 (.int .i64 (v0 : Int))
        have htab11 := own_store (o := i0) (.int .i64 (v0 : Int)) htab10 (own_types htab10 hx10 (by decide))
        have hR11 := hR10.other hx10 (by decide) (.inr (fun k hk => (hx10.lt k hk).1)) hsx
        have hres11 := own_store (o := i0) (.int .i64 (v0 : Int)) hres10 (own_types hres10 hx10 (by decide))
        have hx11 := (hx10.stored i0 (.int .i64 (v0 : Int))).1
        have hc11 := hc10.other hx10 (by decide) (by omega) hsx
        have hgr11 := grown_new hgr10 hsx (fun b hb => by cases hb; omega)
        have hs11 := hgr11.size
        have ct11 : (w10.setCell ⟨gx, i0, none⟩ (.int .i64 (v0 : Int))).cell? ⟨tb, 1, none⟩ = some (.slice A7 (N + 1) d7) := htab11.cellAt 1 (by omega)
        replace hv0 := hide hv0
        rw [← List.map_set] at hx11
        obtain ⟨lz11, vs11, hV11⟩ := hR11
        have hV1 := hV11.1
        have htab11' := hide htab11
        have hx11' := hide hx11
        have hV11' := hide hV11
        replace lz11 := hide lz11
        replace hres11 := hide hres11
        replace hc11 := hide hc11
        clear htab11 hx11 hV11 htab10 hR10 hres10 hgr10 hsx
        replace hx10 := hide hx10
        replace hc10 := hide hc10
        go_wp2_with (at_builtin; refine wpList_push elemS rfl (.tmp 47) (.tmp 49) (w10.setCell ⟨gx, i0, none⟩ (.int .i64 (v0 : Int))) (.slice (some ⟨gx, 0, none⟩) col cx) rfl w.heap.size (.slice A7 (N + 1) d7) (N + 1) _ rfl (by rw [World.size_setCell]; rfl) hV1 rfl (by omega) hs11 ?_; intro A12 c12 w12 hown12 hg12 hat12; have htab12 := World.ownsRow.kept htab11'.out hg12 (own_types htab11'.out hV1 (by decide)); have ct12 : w12.cell? ⟨tb, 1, none⟩ = some (.slice A7 (N + 1) d7) := htab12.cellAt 1 (by omega); have ft12 := htab12.frozenAt 1)
        have hs13 := grown_setCell w12 tb 1 (.slice A12 (N + 1 + 1) c12)
        have htab13 := (htab12.stored 1 (.slice A12 (N + 1 + 1) c12)).1
        have hR12 := RowsU.push lz11.out hV11'.out (own_more hx11'.out (by omega)) (fun k hk => (hx11'.out.lt k hk).1) hown12 hg12
        have hR13 := (hR12.other htab12 (by decide) (.inl (by decide)) hs13).bound
        have hres12 := World.ownsRow.kept hres11.out hg12 (own_types hres11.out hV1 (by decide))
        have hres13 := own_store (o := 1) (.slice A12 (N + 1 + 1) c12) hres12 (g := tb) (.inr (by simp [Value.ownBlock]; omega))
        have hc12 := hc11.out.other hV1 (by decide) hBw hg12
        have hc13 := hc12.other htab12 (by decide) hBw hs13
        have hgr12 := grown_new hgr11 hg12 (fun b hb => (hV1.lt b hb).1)
        have hgr13 := grown_new hgr12 hs13 (fun b hb => by cases hb; omega)
        have T13 : TabAt w _ g B A n c zs w.heap.size tb col (N + 1 + 1) := ⟨⟨A12, c12, _, htab13, hR13⟩, hres13, hc13, hgr13⟩
        replace T13 := hide T13
        clear htab13 hR12 hR13 hres12 hres13 hc12 hc13 hgr12 hgr13 hs13 ct12 ft12 hat12 hown12
        go_wp2_with fail
        go_roundw
        case rel => exact ⟨k, N + 1 + 1, by go_num, by omega, by omega, T13.out⟩
        case measure => simp [intOf]
end Go.Proofs.YtooiobcghobefaaGreatDoor
