/-
  The walk of the law FnExactProjectTable: it returns true: the program's ProjectTable answers as the reference's, in new memory.
  Conditions: none; every argument that can be read as data.
-/
import Derived.Test.YtooiobcghobefaaPjI
import Derived.Test.YtooiobcghobefaaHeldT
import Derived.Test.YtooiobcghobefaaMark
namespace Go.Proofs.Ytooiobcghobefaa.lProjectTable
open Go.RowKit
set_option linter.unusedVariables false

theorem lens_le5 : ∀ zss : List (List Int), (∀ zs ∈ zss, zs.length ≤ 5) → lens zss ≤ 5 * zss.length := by
  intro zss
  induction zss with
  | nil => intro _; simp [lens]
  | cons a r ih =>
    intro hz
    have h4 := ih fun z hz2 => hz z (List.mem_cons_of_mem _ hz2)
    have h5 := hz a (by simp)
    simp only [lens, List.map_cons, List.sum_cons, List.length_cons] at h4 ⊢
    omega
theorem prjR_lens (m : Int) (zss : List (List Int)) (s : Int) : lens (prjR m zss s) ≤ 200 := by
  rcases hG : prjG m zss s with _ | _
  · rw [prjR_no hG]; simp [lens]
  · rw [prjR_yes hG]
    have hT : isTabB m zss = true := by unfold prjG at hG; simp at hG; exact hG.1
    obtain ⟨_, _, h40, _⟩ := isTab_m hT
    have h1 := onceL_len (zss.map (prjRow (memL s)))
    rw [List.length_map] at h1
    have := lens_le5 (onceL (zss.map (prjRow (memL s)))) fun zs hz => by
      rw [onceL_mem] at hz
      obtain ⟨y, _, rfl⟩ := List.mem_map.1 hz
      rw [prjRow_len]; exact memL_len s
    omega
set_option maxHeartbeats 3200000 in
set_option maxRecDepth 100000 in
theorem walk (w : World) (m : Int) (A : Option Addr) (n c : Nat) (zss : List (List Int)) (wm : (Lit.int .i64 m).wf = true) (h : RowsAt w w.heap.size A n zss ∧ ∀ zs ∈ zss, Fits zs) (j : Int) (wj : (Lit.int .i64 j).wf = true) :
    Calls Try.prog 3 #[.agg #[.int .i64 m, .slice A n c], .int .i64 j] w (RetVal w (.bool true)) := by
  obtain ⟨h, _⟩ := h
  have hn := rows_bound h
  clear wm wj
  by_cases hs : n + lens zss ≤ 1048576
  · obtain ⟨L, hsz, _, _⟩ := szV_left (left := 1048576) (tot := n + lens zss) (by omega)
    replace hsz := hide hsz
    have heq := hide (tabEqB_same m zss)
    have hll : lens zss ≤ 1048576 := by omega
    replace hs := hide hs
    have cS := fun (A : Option Addr) (n c : Nat) (X : World) (hX : RowsAt X X.heap.size A n zss) => specPrj m A n c zss j X hX
    have cI := fun (A : Option Addr) (n c : Nat) (X : World) (hX : RowsAt X X.heap.size A n zss) => implPrj m A n c zss j X hX
    have hlv := prjR_lens m zss j
    unfold RetPs at cS
    unfold RetPj at cI
    generalize prjM m zss j = M at cS cI
    generalize prjR m zss j = V at cS cI hlv
    have heqv := hide (tabEqB_same M V)
    replace cS := hide cS
    replace cI := hide cI
    go_enter Try.func3, Try.ntmps3
    go_wp2_with fail
    refine (szTab _ _ _ _ _ _ _ (h.later ?_) (by omega) (by omega)).mono ?_
    · go_grown
    rintro e w1 ⟨rfl, hb1⟩
    rw [hsz.out]
    obtain ⟨k0, k1, hk, hb⟩ := box2 hb1
    clear hb1
    go_wp2_with fail
    refine (toTab _ _ _ _ _ _ (h.later hb) hs.out).mono ?_
    rintro e w2 ⟨A1, n1, c1, rfl, ho1, hb1⟩
    have hs1 := hb1.size
    replace k0 := cell_below hb1 k0 (by omega)
    replace k1 := cell_below hb1 k1 (by omega)
    replace hb := below_call hb hb1
    clear hb1
    go_wp2_with fail
    refine (cS.out _ _ _ _ ho1.rows).mono ?_
    rintro e w3 ⟨AS, nS, cS', rfl, rS, hb1⟩
    have hs2 := hb1.size
    clear ho1
    replace k0 := cell_below hb1 k0 (by omega)
    replace k1 := cell_below hb1 k1 (by omega)
    replace hb := below_call hb hb1
    clear hb1
    obtain ⟨wb, hwb⟩ : ∃ wb, wb = w3.alloc (.cells #[.int .i64 M, .slice AS nS cS'] 26) := ⟨_, rfl⟩
    obtain ⟨bS, hbS⟩ : ∃ bS, bS = w3.heap.size := ⟨_, rfl⟩
    have hbx : Below w3.heap.size w3 wb := by rw [hwb]; exact (Below.refl _ _).alloc (Nat.le_refl _) _
    have zwb : wb.heap.size = bS + 1 := by rw [hwb, hbS]; simp
    have s0 : wb.cell? ⟨bS, 0, none⟩ = some (.int .i64 M) := by rw [hwb, hbS, World.cell?_alloc_at _ _ _ _ rfl]; rfl
    have s1 : wb.cell? ⟨bS, 1, none⟩ = some (.slice AS nS cS') := by rw [hwb, hbS, World.cell?_alloc_at _ _ _ _ rfl]; rfl
    replace k0 := cell_below hbx k0 (by omega)
    replace k1 := cell_below hbx k1 (by omega)
    replace rS := (rS.below hbx).more hbx.size
    replace hb := below_call hb hbx
    have hs3 := hbx.size
    have hkS : w.heap.size < bS := by omega
    replace hwb := hide hwb
    replace hbS := hide hbS
    clear hbx
    go_upto_region 6 with fail
    rw [← hwb.out, ← hbS.out]
    go_wp2_with fail
    refine (toTab _ _ _ _ _ _ (h.later hb) hs.out).mono ?_
    rintro e w4 ⟨A2, n2, c2, rfl, ho2, hb1⟩
    have hs4 := hb1.size
    have hu2 := ho2.under
    replace rS := rS.below hb1
    replace k0 := cell_below hb1 k0 (by omega)
    replace k1 := cell_below hb1 k1 (by omega)
    replace s0 := cell_below hb1 s0 (by omega)
    replace s1 := cell_below hb1 s1 (by omega)
    replace hb := below_call hb hb1
    clear hb1
    obtain ⟨wc, hwc⟩ : ∃ wc, wc = w4.alloc (.cells #[.int .i64 m, .slice A2 n2 c2] 26) := ⟨_, rfl⟩
    obtain ⟨bX, hbX⟩ : ∃ bX, bX = w4.heap.size := ⟨_, rfl⟩
    have hbx : Below w4.heap.size w4 wc := by rw [hwc]; exact (Below.refl _ _).alloc (Nat.le_refl _) _
    have zwc : wc.heap.size = bX + 1 := by rw [hwc, hbX]; simp
    have j0 : wc.cell? ⟨bX, 0, none⟩ = some (.int .i64 m) := by rw [hwc, hbX, World.cell?_alloc_at _ _ _ _ rfl]; rfl
    have j1 : wc.cell? ⟨bX, 1, none⟩ = some (.slice A2 n2 c2) := by rw [hwc, hbX, World.cell?_alloc_at _ _ _ _ rfl]; rfl
    replace k0 := cell_below hbx k0 (by omega)
    replace k1 := cell_below hbx k1 (by omega)
    replace s0 := cell_below hbx s0 (by omega)
    replace s1 := cell_below hbx s1 (by omega)
    rw [← hbX] at hu2
    replace hu2 := hu2.below hbx (fun b o e => (ho2.in_ b o e))
    replace ho2 := ho2.below hbx
    replace rS := rS.below (hbx.mono hs4)
    replace hb := below_call hb hbx
    have hs5 := hbx.size
    have hSX : bS < bX := by omega
    have hbB : wb.heap.size ≤ bX := by omega
    replace hwc := hide hwc
    replace hbX := hide hbX
    clear hbx
    go_upto_region 7 with fail
    rw [← hwc.out, ← hbX.out]
    go_wp2_with fail
    refine (cI.out _ _ _ _ ho2.rows).mono ?_
    rintro e w5 ⟨AG, nG, cG, rfl, hoG, hb1⟩
    have hs6 := hb1.size
    have huG := hoG.under
    replace hu2 := hu2.below hb1 (fun b o e => (ho2.in_ b o e))
    replace ho2 := ho2.below hb1
    replace rS := rS.below (hb1.mono (by omega))
    replace k0 := cell_below hb1 k0 (by omega)
    replace k1 := cell_below hb1 k1 (by omega)
    replace s0 := cell_below hb1 s0 (by omega)
    replace s1 := cell_below hb1 s1 (by omega)
    replace j0 := cell_below hb1 j0 (by omega)
    replace j1 := cell_below hb1 j1 (by omega)
    replace hb := below_call hb hb1
    clear hb1
    obtain ⟨wd, hwd⟩ : ∃ wd, wd = w5.alloc (.cells #[.int .i64 M, .slice AG nG cG] 26) := ⟨_, rfl⟩
    obtain ⟨bG, hbG⟩ : ∃ bG, bG = w5.heap.size := ⟨_, rfl⟩
    have hbx : Below w5.heap.size w5 wd := by rw [hwd]; exact (Below.refl _ _).alloc (Nat.le_refl _) _
    have zwd : wd.heap.size = bG + 1 := by rw [hwd, hbG]; simp
    have g0 : wd.cell? ⟨bG, 0, none⟩ = some (.int .i64 M) := by rw [hwd, hbG, World.cell?_alloc_at _ _ _ _ rfl]; rfl
    have g1 : wd.cell? ⟨bG, 1, none⟩ = some (.slice AG nG cG) := by rw [hwd, hbG, World.cell?_alloc_at _ _ _ _ rfl]; rfl
    replace k0 := cell_below hbx k0 (by omega)
    replace k1 := cell_below hbx k1 (by omega)
    replace s0 := cell_below hbx s0 (by omega)
    replace s1 := cell_below hbx s1 (by omega)
    replace j0 := cell_below hbx j0 (by omega)
    replace j1 := cell_below hbx j1 (by omega)
    rw [← hbG] at huG
    replace huG := huG.below hbx (fun b o e => (hoG.in_ b o e))
    replace hoG := hoG.below hbx
    replace hu2 := hu2.below hbx (fun b o e => (ho2.in_ b o e))
    replace ho2 := ho2.below hbx
    replace rS := rS.below (hbx.mono (by omega))
    replace hb := below_call hb hbx
    have hXc : bX < wc.heap.size := by omega
    have hcG : wc.heap.size ≤ bG := by omega
    have hcur : bG < wd.heap.size := by omega
    replace hwd := hide hwd
    replace hbG := hide hbG
    clear hbx
    go_upto_region 8 with fail
    rw [← hwd.out, ← hbG.out]
    go_wp2_with fail
    refine (eqTab _ _ _ _ _ _ _ _ V V _ hoG.rows (rS.more (by omega))).mono ?_
    rintro e w6 ⟨rfl, hb1⟩
    rw [heqv.out]
    clear hs1 hs2 hs3 hs4 hs5 hs6 hk
    replace hu2 := hu2.below hb1 (fun b o e => (ho2.in_ b o e))
    replace ho2 := ho2.below hb1
    replace huG := huG.below hb1 (fun b o e => (hoG.in_ b o e))
    replace hoG := hoG.below hb1
    replace rS := rS.below (hb1.mono (by omega))
    replace k0 := cell_below hb1 k0 (by omega)
    replace k1 := cell_below hb1 k1 (by omega)
    replace s0 := cell_below hb1 s0 (by omega)
    replace s1 := cell_below hb1 s1 (by omega)
    replace j0 := cell_below hb1 j0 (by omega)
    replace j1 := cell_below hb1 j1 (by omega)
    replace g0 := cell_below hb1 g0 (by omega)
    replace g1 := cell_below hb1 g1 (by omega)
    replace hb := below_call hb hb1
    replace hcur := Nat.lt_of_lt_of_le hcur hb1.size
    clear hb1
    go_wp2_with fail
    go_region_law (first
      | (go_simp; go_at_call 6; refine (toTab _ _ _ _ _ _ (h.later (by exact hb.drew)) hs.out).mono ?_; rintro e w7 ⟨A4, n4, c4, rfl, ho4, hb1⟩; have q0 := cell_below (w := w6.drew) hb1 (by exact j0) (show bX < w6.heap.size by omega); have q1 := cell_below (w := w6.drew) hb1 (by exact j1) (show bX < w6.heap.size by omega))
      | (go_simp; go_at_call 8; refine (eqTab _ _ _ _ _ _ _ _ zss zss _ ((show RowsAt w6.drew w6.drew.heap.size _ _ _ from ho2.rows).later hb1) ho4.rows).mono ?_; rintro e w8 ⟨rfl, hb2⟩; rw [heq.out]))
    all_goals
      have hb3 : Below w6.heap.size w6 w8 := (Below.refl w6.heap.size w6).trans ((show Below w6.heap.size w6 w7 from ⟨hb1.os, hb1.tape, hb1.output, hb1.size, hb1.block⟩).trans (hb2.mono hb1.size))
      replace hu2 := hu2.below hb3 (fun b o e => (ho2.in_ b o e))
      replace ho2 := ho2.below hb3
      replace huG := huG.below hb3 (fun b o e => (hoG.in_ b o e))
      replace hoG := hoG.below hb3
      replace rS := rS.below (hb3.mono (by omega))
      replace k0 := cell_below hb3 k0 (by omega)
      replace k1 := cell_below hb3 k1 (by omega)
      replace s0 := cell_below hb3 s0 (by omega)
      replace s1 := cell_below hb3 s1 (by omega)
      replace j0 := cell_below hb3 j0 (by omega)
      replace j1 := cell_below hb3 j1 (by omega)
      replace g0 := cell_below hb3 g0 (by omega)
      replace g1 := cell_below hb3 g1 (by omega)
      replace hb := below_call hb hb3
      replace hcur := Nat.lt_of_lt_of_le hcur hb3.size
      clear hb1 hb2 hb3 ho4 q0 q1
      go_wp2_with fail
      refine (markTab1 wb.heap.size bX _ _ _ _ _ _ ho2 hu2 (by omega) (by omega)).mono ?_
      rintro e w9 ⟨rfl, ho9, hmk⟩
      have hlow := hmk.low (show wb.heap.size ≤ w8.heap.size by omega)
      replace k0 := (hlow.cell (p := ⟨w.heap.size, 0, none⟩) (show w.heap.size < wb.heap.size by omega)).trans k0
      replace k1 := (hlow.cell (p := ⟨w.heap.size, 1, none⟩) (show w.heap.size < wb.heap.size by omega)).trans k1
      replace s0 := (hlow.cell (p := ⟨bS, 0, none⟩) (show bS < wb.heap.size by omega)).trans s0
      replace s1 := (hlow.cell (p := ⟨bS, 1, none⟩) (show bS < wb.heap.size by omega)).trans s1
      replace g0 := hmk.later g0 (show bX ≤ bG by omega) hcur
      replace g1 := hmk.later g1 (show bX ≤ bG by omega) hcur
      replace rS := rS.below hlow
      replace hb := hb.trans (hlow.mono (show w.heap.size ≤ wb.heap.size by omega))
      replace huG := under_marked huG hoG hmk (by omega)
      replace hoG := hoG.marked hmk (by omega)
      replace hcur := Nat.lt_of_lt_of_le hcur hmk.size
      clear hlow hu2 ho2 ho9 j0 j1 hmk
      have d3 : decide (1 + (lens zss : Int) < 0) = false := by simp; omega
      go_wp2_with (go_at_call 8; refine (eqTab _ _ _ _ _ _ _ _ V V _ hoG.rows (rS.more (by omega))).mono ?_; rintro e w10 ⟨rfl, hb1⟩; rw [heqv.out]; replace g0 := cell_below hb1 g0 (by omega); replace g1 := cell_below hb1 g1 (by omega))
      replace huG := huG.below hb1 (fun b o e => (hoG.in_ b o e))
      replace hoG := hoG.below hb1
      replace rS := rS.below (hb1.mono (by omega))
      replace k0 := cell_below hb1 k0 (by omega)
      replace k1 := cell_below hb1 k1 (by omega)
      replace s0 := cell_below hb1 s0 (by omega)
      replace s1 := cell_below hb1 s1 (by omega)
      replace hb := below_call hb hb1
      replace hcur := Nat.lt_of_lt_of_le hcur hb1.size
      clear hb1
      go_wp2_with fail
      refine (markTab1 wc.heap.size bG _ _ _ _ _ _ hoG huG (by omega) (by omega)).mono ?_
      rintro e w11 ⟨rfl, hm, hmk⟩
      have hlow := hmk.low (show wc.heap.size ≤ w10.heap.size by omega)
      replace k0 := (hlow.cell (p := ⟨w.heap.size, 0, none⟩) (show w.heap.size < wc.heap.size by omega)).trans k0
      replace k1 := (hlow.cell (p := ⟨w.heap.size, 1, none⟩) (show w.heap.size < wc.heap.size by omega)).trans k1
      replace s0 := (hlow.cell (p := ⟨bS, 0, none⟩) (show bS < wc.heap.size by omega)).trans s0
      replace s1 := (hlow.cell (p := ⟨bS, 1, none⟩) (show bS < wc.heap.size by omega)).trans s1
      replace g0 := hmk.later g0 (Nat.le_refl _) hcur
      replace g1 := hmk.later g1 (Nat.le_refl _) hcur
      replace rS := rS.below (hlow.mono (show wb.heap.size ≤ wc.heap.size by omega))
      replace hb := hb.trans (hlow.mono (show w.heap.size ≤ wc.heap.size by omega))
      replace hcur := Nat.lt_of_lt_of_le hcur hmk.size
      clear hlow huG hoG hmk
      go_wp2_with fail
      refine (heldTab1 _ _ _ _ _ _ hm.rows (by omega)).mono ?_
      rintro e w12 ⟨rfl, hb1⟩
      replace hm := hm.below hb1
      replace rS := rS.below (hb1.mono (by omega))
      replace k0 := cell_below hb1 k0 (by omega)
      replace k1 := cell_below hb1 k1 (by omega)
      replace s0 := cell_below hb1 s0 (by omega)
      replace s1 := cell_below hb1 s1 (by omega)
      replace g0 := cell_below hb1 g0 (by omega)
      replace g1 := cell_below hb1 g1 (by omega)
      replace hb := below_call hb hb1
      replace hcur := Nat.lt_of_lt_of_le hcur hb1.size
      clear hb1
      have d1 : decide (1 + (lens V : Int) < 0) = false := by simp; omega
      have d2 : ((1 + (lens V : Int)) != (1 + (lens V : Int))) = false := by simp
      go_wp2_with fail
      refine (toTab _ _ _ _ _ _ (h.later hb) hs.out).mono ?_
      rintro e w13 ⟨A5, n5, c5, rfl, ho5, hb1⟩
      replace hm := hm.below hb1
      replace rS := rS.below (hb1.mono (by omega))
      replace k0 := cell_below hb1 k0 (by omega)
      replace k1 := cell_below hb1 k1 (by omega)
      replace s0 := cell_below hb1 s0 (by omega)
      replace s1 := cell_below hb1 s1 (by omega)
      replace g0 := cell_below hb1 g0 (by omega)
      replace g1 := cell_below hb1 g1 (by omega)
      replace hb := below_call hb hb1
      replace hcur := Nat.lt_of_lt_of_le hcur hb1.size
      clear hb1
      go_wp2_with fail
      refine (cI.out _ _ _ _ ho5.rows).mono ?_
      rintro e w14 ⟨A6, n6, c6, rfl, ho6, hb1⟩
      replace hm := hm.below hb1
      replace rS := rS.below (hb1.mono (by omega))
      replace k0 := cell_below hb1 k0 (by omega)
      replace k1 := cell_below hb1 k1 (by omega)
      replace s0 := cell_below hb1 s0 (by omega)
      replace s1 := cell_below hb1 s1 (by omega)
      replace g0 := cell_below hb1 g0 (by omega)
      replace g1 := cell_below hb1 g1 (by omega)
      replace hb := below_call hb hb1
      replace hcur := Nat.lt_of_lt_of_le hcur hb1.size
      clear hb1
      obtain ⟨we, hwe⟩ : ∃ we, we = w14.alloc (.cells #[.int .i64 M, .slice A6 n6 c6] 26) := ⟨_, rfl⟩
      obtain ⟨bZ, hbZ⟩ : ∃ bZ, bZ = w14.heap.size := ⟨_, rfl⟩
      have hbx : Below w14.heap.size w14 we := by rw [hwe]; exact (Below.refl _ _).alloc (Nat.le_refl _) _
      have zwe : we.heap.size = bZ + 1 := by rw [hwe, hbZ]; simp
      have q0 : we.cell? ⟨bZ, 0, none⟩ = some (.int .i64 M) := by rw [hwe, hbZ, World.cell?_alloc_at _ _ _ _ rfl]; rfl
      have q1 : we.cell? ⟨bZ, 1, none⟩ = some (.slice A6 n6 c6) := by rw [hwe, hbZ, World.cell?_alloc_at _ _ _ _ rfl]; rfl
      replace ho6 := ho6.below hbx
      replace hm := hm.below hbx
      replace rS := rS.below (hbx.mono (by omega))
      replace k0 := cell_below hbx k0 (by omega)
      replace k1 := cell_below hbx k1 (by omega)
      replace s0 := cell_below hbx s0 (by omega)
      replace s1 := cell_below hbx s1 (by omega)
      replace g0 := cell_below hbx g0 (by omega)
      replace g1 := cell_below hbx g1 (by omega)
      replace hb := below_call hb hbx
      replace hcur := Nat.lt_of_lt_of_le hcur hbx.size
      replace hwe := hide hwe
      replace hbZ := hide hbZ
      clear hbx ho5
      go_upto_region 25 with fail
      rw [← hwe.out, ← hbZ.out]
      go_wp2_with fail
      refine (eqTab _ _ _ _ _ _ _ _ V V _ ho6.rows (rS.more (by omega))).mono ?_
      rintro e w15 ⟨rfl, hb1⟩
      rw [heqv.out]
      replace hm := hm.below hb1
      replace rS := rS.below (hb1.mono (by omega))
      replace k0 := cell_below hb1 k0 (by omega)
      replace k1 := cell_below hb1 k1 (by omega)
      replace s0 := cell_below hb1 s0 (by omega)
      replace s1 := cell_below hb1 s1 (by omega)
      replace g0 := cell_below hb1 g0 (by omega)
      replace g1 := cell_below hb1 g1 (by omega)
      replace hb := below_call hb hb1
      replace hcur := Nat.lt_of_lt_of_le hcur hb1.size
      clear hb1 q0 q1 ho6
      go_wp2_with fail
      refine (heldTab1 _ _ _ _ _ _ hm.rows (by omega)).mono ?_
      rintro e w16 ⟨rfl, hb1⟩
      replace hb := below_call hb hb1
      clear hb1
      go_wp2_with fail
      go_ret
      exact ⟨rfl, hb⟩
  · have hsz := hide (szV_no (left := 1048576) (tot := ((n + lens zss : Nat) : Int)) (by omega))
    go_enter Try.func3, Try.ntmps3
    go_wp2_with fail
    refine (szTab _ _ _ _ _ _ _ (h.later ?_) (by omega) (by omega)).mono ?_
    · go_grown
    rintro e w1 ⟨rfl, hb1⟩
    rw [hsz.out]
    go_wp2_with fail
    go_ret
    exact ⟨rfl, below_box hb1⟩

end Go.Proofs.Ytooiobcghobefaa.lProjectTable
