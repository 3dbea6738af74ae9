/-
  The walk of the law FnExactPartitionOf: it returns true: the program's PartitionOf answers as the reference's, in new memory.
  Conditions: none; every argument that can be read as data.
-/
import Derived.Test.YtkcckfpihpfbnaaParC
import Derived.Test.YtkcckfpihpfbnaaHeldS
import Derived.Test.YtkcckfpihpfbnaaMark
namespace Go.Proofs.Ytkcckfpihpfbnaa.lPartitionOf
open Go.RowKit
set_option linter.unusedVariables false

set_option maxHeartbeats 1600000 in
set_option maxRecDepth 100000 in
theorem walk (w : World) (m : Int) (A : Option Addr) (n c : Nat) (zss : List (List Int)) (wm : (Lit.int .i64 m).wf = true) (h : RowsAt w w.heap.size A n zss ∧ ∀ zs ∈ zss, Fits zs) (j : Int) (wj : (Lit.int .i64 j).wf = true) (i : Int) (wi : (Lit.int .i64 i).wf = true) :
    Calls Try.prog 8 #[.agg #[.int .i64 m, .slice A n c], .int .i64 j, .int .i64 i] w (RetVal w (.bool true)) := by
  obtain ⟨h, _⟩ := h
  have hn := rows_bound h
  clear wm wj wi
  by_cases hs : n + lens zss ≤ 1048576
  · obtain ⟨L, hsz, _, _⟩ := szV_left (left := 1048576) (tot := n + lens zss) (by omega)
    replace hsz := hide hsz
    have heq := hide (tabEqB_same m zss)
    have heqi := hide (fun xs : List (List Int) => beq_self_eq_true xs)
    have hcl := parL_len m zss j i
    have hln := h.1
    have hll : lens zss ≤ 1048576 := by omega
    replace hs := hide hs
    obtain ⟨V, hV⟩ : ∃ V, V = parL m zss j i := ⟨_, rfl⟩
    rw [← hV] at hcl
    replace hV := hide hV
    go_enter Try.func8, Try.ntmps8
    go_wp2_with fail
    refine (szTab _ _ _ _ _ _ _ (h.later ?_) (by omega) (by omega)).mono ?_
    · go_grown
    rintro e w1 ⟨rfl, hb1⟩
    rw [hsz.out]
    obtain ⟨k0, k1, hk, hb⟩ := box2 hb1
    clear hb1
    go_wp2_with fail
    refine (toTab _ _ _ _ _ _ (h.later hb) hs.out).mono ?_
    rintro e w2 ⟨A1, n1, c1, rfl, ho1, hb1⟩
    replace k0 := cell_below hb1 k0 hk
    replace k1 := cell_below hb1 k1 hk
    replace hk := Nat.lt_of_lt_of_le hk hb1.size
    replace hb := below_call hb hb1
    clear hb1
    go_wp2_with fail
    refine (specPar _ _ _ _ _ _ _ _ ho1.rows).mono ?_
    rintro e w3 ⟨AS, nS, cS, rfl, hoS, hb1⟩
    rw [← hV.out] at hoS
    have rS := hoS.rows
    clear ho1 hoS
    replace k0 := cell_below hb1 k0 hk
    replace k1 := cell_below hb1 k1 hk
    replace hk := Nat.lt_of_lt_of_le hk hb1.size
    replace hb := below_call hb hb1
    clear hb1
    go_wp2_with fail
    refine (toTab _ _ _ _ _ _ (h.later hb) hs.out).mono ?_
    rintro e w4 ⟨A2, n2, c2, rfl, ho2, hb1⟩
    have hB0 : w.heap.size ≤ w3.heap.size := hb.size
    have hkB : w.heap.size < w3.heap.size := hk
    have hHB : w3.heap.size ≤ w4.heap.size := hb1.size
    have hu2 := ho2.under
    replace rS := rS.below hb1
    replace k0 := cell_below hb1 k0 hk
    replace k1 := cell_below hb1 k1 hk
    replace hk := Nat.lt_of_lt_of_le hk hb1.size
    replace hb := below_call hb hb1
    clear hb1
    obtain rfl := ho2.1.symm.trans h.1
    go_wp2_with fail
    refine (implPar _ _ _ _ _ _ _ _ (ho2.rows.later ?_)).mono ?_
    · go_grown
    rintro e w5 ⟨A3, n3, c3, rfl, hoI, hb1⟩
    rw [← hV.out] at hoI
    replace hoI : OwnRows w5 w4.heap.size A3 n3 c3 V := hoI.more (by simp)
    obtain ⟨j0, j1, hj, hb2⟩ := box2 hb1
    clear hb1
    replace hu2 := hu2.below hb2 (fun b o e => (ho2.in_ b o e))
    replace ho2 := ho2.below hb2
    replace rS := rS.below (hb2.mono hHB)
    replace k0 := cell_below hb2 k0 hk
    replace k1 := cell_below hb2 k1 hk
    replace hk := Nat.lt_of_lt_of_le hk hb2.size
    replace hb := below_call hb hb2
    have h45 := hb2.size
    clear hb2
    go_wp2_with fail
    refine (eqRowsV _ _ _ _ _ _ V V _ hoI.rows (rS.more (by omega))).mono ?_
    rintro e w6 ⟨rfl, hb1⟩
    rw [heqi.out]
    replace hu2 := hu2.below hb1 (fun b o e => (ho2.in_ b o e))
    replace ho2 := ho2.below hb1
    replace hoI := hoI.below hb1
    replace rS := rS.below (hb1.mono (by omega))
    replace k0 := cell_below hb1 k0 hk
    replace k1 := cell_below hb1 k1 hk
    replace j0 := cell_below hb1 j0 hj
    replace j1 := cell_below hb1 j1 hj
    replace hk := Nat.lt_of_lt_of_le hk hb1.size
    replace hj := Nat.lt_of_lt_of_le hj hb1.size
    replace hb := below_call hb hb1
    have h46 := Nat.le_trans h45 hb1.size
    clear hb1 h45
    go_wp2_with fail
    go_region_law (first
      | (go_simp; go_at_call 35; refine (toTab _ _ _ _ _ _ (h.later (by exact hb.drew)) hs.out).mono ?_; rintro e w7 ⟨A4, n4, c4, rfl, ho4, hb1⟩; obtain rfl := (ho4.1.symm.trans h.1); have q0 := cell_below (w := w6.drew) hb1 (by exact j0) (by exact hj); have q1 := cell_below (w := w6.drew) hb1 (by exact j1) (by exact hj))
      | (go_simp; go_at_call 36; refine (eqTab _ _ _ _ _ _ _ _ zss zss _ ((show RowsAt w6.drew w6.drew.heap.size _ _ _ from ho2.rows).later hb1) ho4.rows).mono ?_; rintro e w8 ⟨rfl, hb2⟩; rw [heq.out]))
    all_goals
      have hb3 : Below w6.heap.size w6 w8 := (Below.refl w6.heap.size w6).trans ((show Below w6.heap.size w6 w7 from ⟨hb1.os, hb1.tape, hb1.output, hb1.size, hb1.block⟩).trans (hb2.mono hb1.size))
      replace hu2 := hu2.below hb3 (fun b o e => (ho2.in_ b o e))
      replace ho2 := ho2.below hb3
      replace hoI := hoI.below hb3
      replace rS := rS.below (hb3.mono (by omega))
      replace k0 := cell_below hb3 k0 hk
      replace k1 := cell_below hb3 k1 hk
      replace j0 := cell_below hb3 j0 hj
      replace j1 := cell_below hb3 j1 hj
      replace hk := Nat.lt_of_lt_of_le hk hb3.size
      replace hj := Nat.lt_of_lt_of_le hj hb3.size
      replace hb := below_call hb hb3
      have h48 := Nat.le_trans h46 hb3.size
      clear hb1 hb2 hb3 h46 ho4 q0 q1
      go_wp2_with fail
      refine (markTab1 w3.heap.size w4.heap.size _ _ _ _ _ _ ho2 hu2 (by omega) h48).mono ?_
      rintro e w9 ⟨rfl, ho9, hmk⟩
      have hl9 : w3.heap.size ≤ w8.heap.size := by omega
      have hlow := hmk.low hl9
      replace rS := rS.below hlow
      replace k0 := (hlow.cell (p := ⟨w.heap.size, 0, none⟩) hkB).trans k0
      replace k1 := (hlow.cell (p := ⟨w.heap.size, 1, none⟩) hkB).trans k1
      replace hb := hb.trans (hlow.mono hB0)
      replace hoI := hoI.marked hmk (Nat.le_refl _)
      have h49 := Nat.le_trans h48 hmk.size
      clear hlow hl9 hu2 ho2 ho9 j0 j1 h48 hmk hj hk
      go_wp2_with (go_at_call 46; refine (eqRowsV _ _ _ _ _ _ V V _ hoI.rows (rS.more (by omega))).mono ?_; rintro e w10 ⟨rfl, hb1⟩; rw [heqi.out]; replace k0 := cell_below hb1 k0 (by omega); replace k1 := cell_below hb1 k1 (by omega))
      replace hoI := hoI.below hb1
      replace rS := rS.below (hb1.mono (by omega))
      replace hb := below_call hb hb1
      have h410 := Nat.le_trans h49 hb1.size
      clear hb1 h49
      have huI := hoI.under
      go_wp2_with fail
      refine (markRows1 w4.heap.size w10.heap.size _ _ _ _ _ hoI huI (by omega)).mono ?_
      rintro e w11 ⟨rfl, hm, hmk⟩
      have hb1 : Below w4.heap.size w10 w11 := hmk.low h410
      replace k0 := (hb1.cell (p := ⟨w.heap.size, 0, none⟩) (show w.heap.size < w4.heap.size by omega)).trans k0
      replace k1 := (hb1.cell (p := ⟨w.heap.size, 1, none⟩) (show w.heap.size < w4.heap.size by omega)).trans k1
      replace rS := rS.below (hb1.mono hHB)
      replace hb := hb.trans (hb1.mono (by omega))
      have h411 := Nat.le_trans h410 hb1.size
      clear hb1 hmk huI hoI h410
      go_wp2_with fail
      refine (heldRows1 _ _ _ _ _ hm.rows (by omega)).mono ?_
      rintro e w12 ⟨rfl, rfl⟩
      go_wp2_with fail
      refine (toTab _ _ _ _ _ _ (h.later hb) hs.out).mono ?_
      rintro e w13 ⟨A5, n5, c5, rfl, ho5, hb1⟩
      replace rS := rS.below (hb1.mono (by omega))
      replace hm := hm.below hb1
      replace hb := below_call hb hb1
      have h413 := Nat.le_trans h411 hb1.size
      clear hb1 h411 k0 k1
      obtain rfl := ho5.1.symm.trans h.1
      go_wp2_with fail
      refine (implPar _ _ _ _ _ _ _ _ ho5.rows).mono ?_
      rintro e w14 ⟨A6, n6, c6, rfl, hoJ, hb1⟩
      rw [← hV.out] at hoJ
      replace rS := rS.below (hb1.mono (by omega))
      replace hm := hm.below hb1
      replace hb := below_call hb hb1
      have h414 := Nat.le_trans h413 hb1.size
      clear hb1 h413 ho5
      go_wp2_with fail
      refine (eqRowsV _ _ _ _ _ _ V V _ hoJ.rows (rS.more (by omega))).mono ?_
      rintro e w15 ⟨rfl, hb1⟩
      rw [heqi.out]
      replace hm := hm.below hb1
      replace hb := below_call hb hb1
      clear hb1 h414 hoJ rS
      go_wp2_with fail
      refine (heldRows1 _ _ _ _ _ hm.rows (by omega)).mono ?_
      rintro e w16 ⟨rfl, rfl⟩
      go_wp2_with fail
      go_ret
      exact ⟨rfl, hb⟩
  · have hsz := hide (szV_no (left := 1048576) (tot := ((n + lens zss : Nat) : Int)) (by omega))
    go_enter Try.func8, Try.ntmps8
    go_wp2_with fail
    refine (szTab _ _ _ _ _ _ _ (h.later ?_) (by omega) (by omega)).mono ?_
    · go_grown
    rintro e w1 ⟨rfl, hb1⟩
    rw [hsz.out]
    go_wp2_with fail
    go_ret
    exact ⟨rfl, below_box hb1⟩

end Go.Proofs.Ytkcckfpihpfbnaa.lPartitionOf
