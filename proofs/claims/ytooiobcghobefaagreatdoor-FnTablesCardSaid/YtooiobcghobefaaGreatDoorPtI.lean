/-
  Walk of the program's ParseTable.
  Conditions: as each theorem says.
-/
import Derived.Test.YtooiobcghobefaaGreatDoorPtS
import Derived.Test.YtooiobcghobefaaGreatDoorSplit
namespace Go.Proofs.YtooiobcghobefaaGreatDoor
open Go.RowKit Go.Lib
set_option linter.unusedVariables false

set_option maxHeartbeats 6400000 in
set_option maxRecDepth 100000 in
theorem implPt (l : List UInt8) (M : Int) (w : World) (hl : l.length ≤ 1048576) (ht : Tabs w) (he : Errs w) (hM : w.cell? ⟨0, 0, none⟩ = some (.int .i64 M)) : Calls Tryz.prog 7 #[str l] w (RetPt l w) := by
  have hG := World.block_lt_of_cell? w _ hM
  have hMl := hide (fun (W : World) (hW : Below w.heap.size w W) => (hW.cell (p := ⟨0, 0, none⟩) hG).trans hM)
  replace hG := hide hG
  clear hM
  replace ht := hide ht
  replace he := hide he
  obtain ⟨wa, hwa⟩ : ∃ wa, wa = w.alloc (.cells #[.int .i64 0, .slice none 0 0] 26) := ⟨_, rfl⟩
  have hwz : wa.heap.size = w.heap.size + 1 := by rw [hwa]; simp
  have hba : Below w.heap.size w wa := by rw [hwa]; exact (Below.refl _ _).alloc (Nat.le_refl _) _
  have hres : wa.ownsRow w.heap.size 26 1 (.slice (some ⟨w.heap.size, 0, none⟩) 2 2) 2 [.int .i64 0, .slice none 0 0] := by
    rw [hwa]; exact World.ownsRow_lit (e := 26) (size := 1) w #[.int .i64 0, .slice none 0 0] 2 (Nat.le_refl _) (by unfold maxLen; omega) rfl
  replace hwa := hide hwa
  have hcnt := partsV_len 10 l
  have hcl := List.count_le_length (a := (10 : UInt8)) (l := l)
  have hne1 := parts_ne 10 l
  have hSp := hide (libSplit 10 l M wa hl (hMl.out wa hba))
  go_enter Tryz.func7, Tryz.ntmps7
  go_wp2_with fail
  rw [← hwa.out]
  refine hSp.out.mono ?_
  rintro e w1 ⟨nL, rfl, hoL, hb1⟩
  have hnL : (partsV 10 l).length = nL := by have := own_len hoL; simpa using this
  have rL := Reads.of_own hoL
  have hres1 := own_below hres hb1
  have hbw1 : Below w.heap.size w w1 := hba.trans (hb1.mono (by omega))
  have hs1 := hb1.size
  have hs1' := (hoL.lt wa.heap.size rfl).2
  have hll := parts_len 10 l
  rw [hnL] at hcnt hne1
  have hnLb : nL ≤ 1048577 := by omega
  have hnil : 2 ≤ nL → l ≠ [] := fun h2 e => by subst e; simp at hcnt; omega
  replace hcnt := hide hcnt
  replace hnil := hide hnil
  replace hoL := own_more hoL (show w.heap.size ≤ wa.heap.size by omega)
  clear hb1 hba hres
  obtain ⟨gL, hgL⟩ : ∃ gL, gL = wa.heap.size := ⟨_, rfl⟩
  rw [← hgL] at hoL rL
  obtain ⟨bL, oL, s0, hA0, hbbL, hs0, hc0⟩ := at_str (k := 0) rL (by omega)
  cases hA0
  have hC := hide (ptC_at hs0)
  have hs0l := hll s0 (List.mem_of_getElem? hs0)
  rw [Nat.add_zero] at hc0
  have T0 := TabQ.start hres1 hbw1 (s0.length : Int) (by omega)
  obtain ⟨tb, htb⟩ : ∃ tb, tb = w1.heap.size := ⟨_, rfl⟩
  obtain ⟨w2, hw2⟩ : ∃ w2, w2 = w1.alloc (.cells #[.int .i64 (s0.length : Int), .slice none 0 0] 26) := ⟨_, rfl⟩
  have hb12 : Below w1.heap.size w1 w2 := by rw [hw2]; exact (Below.refl _ _).alloc (Nat.le_refl _) _
  rw [← hw2, ← htb] at T0
  obtain ⟨C, hCe⟩ : ∃ C : Int, C = (s0.length : Int) := ⟨_, rfl⟩
  rw [← hCe] at T0 hC
  replace hs0 := hide hs0
  replace hw2 := hide hw2
  replace htb := hide htb
  replace hCe := hide hCe
  replace hres1 := hide hres1
  replace hgL := hide hgL
  replace hoL := own_below hoL hb12
  clear rL
  rw [← hgL.out]
  go_upto_region 3 with fail
  rw [← hCe.out]
  rw [← hCe.out] at hw2
  rw [← hw2.out, ← htb.out]
  by_cases hfew : nL < 2
  · have hg := hide (ptG_few (l := l) (by omega))
    have dd1 : decide ((nL : Int) < 2) = true := by simp; omega
    have dd1' : decide (nL < 2) = true := by simp; omega
    replace hoL := hide hoL
    have T := hide T0
    clear T0
    have ct0 : w2.cell? ⟨tb, 0, none⟩ = some (.int .i64 C) := T.out.tab.cellAt 0 (by omega)
    have ct1 : w2.cell? ⟨tb, 1, none⟩ = some (.slice none 0 0) := T.out.tab.cellAt 1 (by omega)
    have cr0 : w2.cell? ⟨w.heap.size, 0, none⟩ = some (.int .i64 0) := T.out.res.cellAt 0 (by omega)
    have cr1 : w2.cell? ⟨w.heap.size, 1, none⟩ = some (.slice none 0 0) := T.out.res.cellAt 1 (by omega)
    have fr0 := T.out.res.frozenAt 0
    have fr1 := T.out.res.frozenAt 1
    have hfin := hide (res_fin T.out.res T.out.below)
    go_wp2_with fail
    obtain ⟨z0, z1, hRz, hbz⟩ := hfin.out
    refine bodyPost_ret (v := .tuple #[.agg #[.int .i64 0, .slice none 0 0], .bool false]) (by simp [results, Tryz.results7, go_sem, z0, z1]) rfl ?_
    exact ret_pt hg.out (ptM_no hg.out) (ptR_no hg.out) hRz hbz
  by_cases hmany : 42 < nL
  · have hg := hide (ptG_many (l := l) (by omega))
    have dd1 : decide ((nL : Int) < 2) = false := by simp; omega
    have dd1' : decide (nL < 2) = false := by simp; omega
    have dd2 : decide ((42 : Int) < (nL : Int)) = true := by simp; omega
    have dd2' : decide (42 < nL) = true := by simp; omega
    replace hoL := hide hoL
    have T := hide T0
    clear T0
    have ct0 : w2.cell? ⟨tb, 0, none⟩ = some (.int .i64 C) := T.out.tab.cellAt 0 (by omega)
    have ct1 : w2.cell? ⟨tb, 1, none⟩ = some (.slice none 0 0) := T.out.tab.cellAt 1 (by omega)
    have cr0 : w2.cell? ⟨w.heap.size, 0, none⟩ = some (.int .i64 0) := T.out.res.cellAt 0 (by omega)
    have cr1 : w2.cell? ⟨w.heap.size, 1, none⟩ = some (.slice none 0 0) := T.out.res.cellAt 1 (by omega)
    have fr0 := T.out.res.frozenAt 0
    have fr1 := T.out.res.frozenAt 1
    have hfin := hide (res_fin T.out.res T.out.below)
    go_wp2_with fail
    obtain ⟨z0, z1, hRz, hbz⟩ := hfin.out
    refine bodyPost_ret (v := .tuple #[.agg #[.int .i64 0, .slice none 0 0], .bool false]) (by simp [results, Tryz.results7, go_sem, z0, z1]) rfl ?_
    exact ret_pt hg.out (ptM_no hg.out) (ptR_no hg.out) hRz hbz
  have dd1 : decide ((nL : Int) < 2) = false := by simp; omega
  have dd1' : decide (nL < 2) = false := by simp; omega
  have dd2 : decide ((42 : Int) < (nL : Int)) = false := by simp; omega
  have dd2' : decide (42 < nL) = false := by simp; omega
  have hel : (Tryz.prog).elem 43 = 9 := by kernel_rfl
  have hsl : ∀ X : World, (Instr.slice 43 (.slice (some ⟨gL, 0, none⟩) nL nL) (some (.int .i64 1)) (some (.int .i64 ((nL : Int) - 1))) none).run Tryz.prog X = .ok (.slice (some ⟨gL, 1, none⟩) (nL - 2) (nL - 1)) X := fun X => by
    have e1 : ((nL : Int) - 1).toNat = nL - 1 := by omega
    rw [run_slice_lh (w := X) 43 (some ⟨gL, 0, none⟩) nL nL (by rw [hel]; exact Tryz.underlying43) .i64 .i64 1 ((nL : Int) - 1) (by omega) (by omega) (by omega), hel, Tryz.sizeOf9, e1]
    show Result.ok (Value.slice (if nL = 1 then _ else _) (nL - 1 - 1) (nL - 1)) X = _
    rw [if_neg (by omega), Nat.sub_sub]
    rfl
  have hnLs : ((nL - 2 : Nat) : Int) = (nL : Int) - 2 := by omega
  replace hnLs := hide hnLs
  replace hel := hide hel
  clear hc0 hbbL
  go_wp2_with fail
  go_loopw [35] (fun i wr => ∃ (k N d : Nat) (A' : Option Addr), i = .int .i64 (k : Int) ∧ k ≤ nL - 2 ∧ TabQ w wr tb C A' N d ((((partsV 10 l).drop 1).take k).map rowP) ∧ wr.ownsRow w.heap.size 9 1 (.slice (some ⟨gL, 0, none⟩) nL nL) nL ((partsV 10 l).map str)) (fun i _ => nL - 2 - (RowKit.intOf i).toNat)
  case atStart => exact ⟨0, 0, 0, none, rfl, by omega, T0, hoL⟩
  case round =>
    clear hoL
    obtain ⟨i, N1, d1, A1, rfl, hi, T, hoL⟩ := hrel
    obtain ⟨wo, hwo0⟩ : ∃ wo : World, wo = wr := ⟨_, rfl⟩
    subst hwo0
    clear T0
    have hN1 : N1 ≤ 1048577 := by have := T.rows.1; rw [List.length_map, List.length_take] at this; omega
    have hTb := T.below
    by_cases hlt : i < nL - 2
    · obtain ⟨ln, hln⟩ : ∃ ln, (partsV 10 l)[i + 1]? = some ln := ⟨_, List.getElem?_eq_getElem (by omega)⟩
      have hcln : wo.cell? ⟨gL, 1 + i, none⟩ = some (str ln) := by rw [Nat.add_comm, hoL.cellAt (i + 1) (by omega), List.getElem?_map, hln]; rfl
      have hlnl := hll ln (List.mem_of_getElem? hln)
      have hstep := hide (rows_step hln)
      have hpl := parts_len 32 ln
      have hpn := partsV_len 32 ln
      have hpc := List.count_le_length (a := (32 : UInt8)) (l := ln)
      have hst := own_start wo 3
      obtain ⟨w3, hw3⟩ : ∃ w3, w3 = wo.alloc (.cells #[] 3) := ⟨_, rfl⟩
      have hb3 : Below wo.heap.size wo w3 := by rw [hw3]; exact (Below.refl _ _).alloc (Nat.le_refl _) _
      rw [← hw3] at hst
      have hSp3 := hide (libSplit 32 ln M w3 (by omega) (hMl.out w3 (hTb.trans (hb3.mono hTb.size))))
      replace hw3 := hide hw3
      replace T := hide T
      replace hoL := hide hoL
      have hln' := hide hln
      replace hpl := hide hpl
      clear hln
      go_wp2_with fail
      rw [← hw3.out]
      refine hSp3.out.mono ?_
      rintro e w4 ⟨nW, rfl, hoW, hb4⟩
      have hnW : (partsV 32 ln).length = nW := by have := own_len hoW; simpa using this
      rw [hnW] at hpn
      have hnWb : nW ≤ 1048577 := by omega
      have hst4 := own_below hst hb4
      have hb34 := below_call hb3 hb4
      have hoW4 := own_more hoW hb3.size
      obtain ⟨gW, hgW⟩ : ∃ gW, gW = w3.heap.size := ⟨_, rfl⟩
      rw [← hgW] at hoW4
      rw [← hgW]
      replace hgW := hide hgW
      replace hpn := hide hpn
      clear hpc hoW hst hb4
      go_wp2_with fail
      go_loopw [8, 43] (fun s j wq => ∃ (k N d : Nat) (A' : Option Addr), j = .int .i64 (k : Int) ∧ k ≤ nW ∧ s = .slice A' N d ∧ wq.ownsRow wo.heap.size 3 1 (.slice A' N d) N ((((partsV 32 ln).take k).map ptVal).map (Value.int .i64)) ∧ wq.ownsRow wo.heap.size 9 1 (.slice (some ⟨gW, 0, none⟩) nW nW) nW ((partsV 32 ln).map str) ∧ Below wo.heap.size wo wq) (fun _ j _ => nW - (RowKit.intOf j).toNat)
      case atStart => exact ⟨0, 0, 0, _, rfl, by omega, rfl, hst4, hoW4, hb34⟩
      case round =>
        clear hst4 hoW4 hb34
        obtain ⟨k, N3, c3, A3, rfl, hk3, rfl, hrow, hoW, hbq⟩ := hrel
        have hN3 : N3 ≤ nW := by have := own_len hrow; rw [List.length_map, List.length_map, List.length_take] at this; omega
        by_cases hkl : k < nW
        · obtain ⟨b3, o3, s, hA3, hbb3, hs3, hc3⟩ := at_str (Reads.of_own hoW) hkl
          cases hA3
          rw [Nat.zero_add] at hc3
          have hsl3 := hpl.out s (List.mem_of_getElem? hs3)
          have hBw : Below w.heap.size w wr := hTb.trans (hbq.mono hTb.size)
          have hI := hide (implVal s wr (by omega) (ht.out.below hBw) (he.out.below hBw))
          rcases hok : okB s with _ | _
          · have hg := hide (ptG_word (l := l) (by omega) hln'.out hs3 hok)
            have hpv := hide (pvV_no hok)
            replace hok := hide hok
            replace hs3 := hide hs3
            replace hrow := hide hrow
            replace hoW := hide hoW
            go_wp2_with fail
            refine hI.out.mono ?_
            rintro e w5 ⟨rfl, hb5⟩
            rw [hpv.out]
            have T5 := hide (T.out.later (below_call hbq hb5))
            have ct0 : w5.cell? ⟨tb, 0, none⟩ = some (.int .i64 C) := T5.out.tab.cellAt 0 (by omega)
            have ct1 : w5.cell? ⟨tb, 1, none⟩ = some (.slice A1 N1 d1) := T5.out.tab.cellAt 1 (by omega)
            have cr0 : w5.cell? ⟨w.heap.size, 0, none⟩ = some (.int .i64 0) := T5.out.res.cellAt 0 (by omega)
            have cr1 : w5.cell? ⟨w.heap.size, 1, none⟩ = some (.slice none 0 0) := T5.out.res.cellAt 1 (by omega)
            have fr0 := T5.out.res.frozenAt 0
            have fr1 := T5.out.res.frozenAt 1
            have hfin := hide (res_fin T5.out.res T5.out.below)
            go_wp2_with fail
            obtain ⟨z0, z1, hRz, hbz⟩ := hfin.out
            refine bodyPost_ret (v := .tuple #[.agg #[.int .i64 0, .slice none 0 0], .bool false]) (by simp [results, Tryz.results7, go_sem, z0, z1]) rfl ?_
            exact ret_pt hg.out (ptM_no hg.out) (ptR_no hg.out) hRz hbz
          · have hpv := hide (pvV_yes hok rfl)
            have hst3 := hide (show (((partsV 32 ln).take k).map ptVal).map (Value.int .i64) ++ [.int .i64 (ptVal s)] = (((partsV 32 ln).take (k + 1)).map ptVal).map (Value.int .i64) by rw [← rowP_step hs3]; simp)
            replace hok := hide hok
            replace hs3 := hide hs3
            replace hrow := hide hrow
            replace hoW := hide hoW
            go_wp2_with fail
            refine hI.out.mono ?_
            rintro e w5 ⟨rfl, hb5⟩
            rw [hpv.out]
            have hrow2 := own_below hrow.out hb5
            have hoW2 := own_below hoW.out hb5
            have hbq2 := below_call hbq hb5
            have hs5 := hbq2.size
            clear hb5
            go_wp2_with (at_builtin; refine wpList_push elemInt rfl (.tmp 55) (.tmp 57) w5 (.int .i64 (ptVal s)) rfl wo.heap.size (.slice A3 N3 c3) N3 _ rfl rfl hrow2 rfl (by omega) hs5 ?_; intro A6 c6 w6 hown6 hg6 hat6; have hbq6 := below_push hbq2 hs5 hrow2 hg6; have hoW6 := World.ownsRow.kept hoW2 hg6 (own_types hoW2 hrow2 (by decide)); rw [hst3.out] at hown6; clear hg6 hat6 hrow2 hbq2 hoW2)
            go_roundw
            case rel => exact ⟨k + 1, N3 + 1, c6, A6, by go_num, by omega, rfl, hown6, hoW6, hbq6⟩
            case measure => simp [RowKit.intOf]; omega
        · obtain rfl : k = nW := by omega
          have hrow1 : wr.ownsRow wo.heap.size 3 1 (.slice A3 N3 c3) N3 ((rowP ln).map (Value.int .i64)) := by
            have := hrow
            rwa [List.take_of_length_le (by omega)] at this
          have hbq2 := hbq
          replace hoL := own_below hoL.out hbq2
          replace hrow := hrow1
          clear hrow1 hoW
          obtain ⟨lz, vs, hV⟩ := T.out.rows.below hbq2
          have htab4 := own_below T.out.tab hbq2
          have hs4 := Nat.le_trans T.out.below.size hbq2.size
          have ct1 : wr.cell? ⟨tb, 1, none⟩ = some (.slice A1 N1 d1) := htab4.cellAt 1 (by omega)
          have hV' := hide hV
          have hV1 := hV.1
          have htab4' := hide htab4
          have lz' := hide lz
          have hrow' := hide hrow
          have hoL' := hide hoL
          clear hV htab4 lz hrow hoL
          go_wp2_with (at_builtin; refine wpList_push elemS rfl (.tmp 61) (.tmp 63) wr (.slice A3 N3 c3) rfl w.heap.size (.slice A1 N1 d1) N1 _ rfl rfl hV1 rfl (by omega) hs4 ?_; intro A5 c5 w5 hown5 hg5 hat5; have htab5 := World.ownsRow.kept htab4'.out hg5 (own_types htab4'.out hV1 (by decide)); have ct5 : w5.cell? ⟨tb, 1, none⟩ = some (.slice A1 N1 d1) := htab5.cellAt 1 (by omega); have ft5 := htab5.frozenAt 1; have T5 := hide (TabQ.push T.out hbq2 lz'.out hV'.out hrow'.out hown5 hg5); have hoL4 := World.ownsRow.kept hoL'.out hg5 (own_types hoL'.out hV1 (by decide)); have hoL5 := hide (own_store (o := 1) (.slice A5 (N1 + 1) c5) hoL4 (own_types hoL4 htab5 (by decide))); clear htab5 hoL4 hown5 hg5 hat5)
          go_roundw
          case rel => exact ⟨i + 1, N1 + 1, c5, A5, by go_num, by omega, by rw [hstep.out]; exact T5.out, hoL5.out⟩
          case measure => simp [RowKit.intOf]; omega
    · obtain rfl : i = nL - 2 := by omega
      have hZ := hide (show ptZ l = (((partsV 10 l).drop 1).take (nL - 2)).map rowP by unfold ptZ ptRows; rw [hnL])
      obtain ⟨Z, hZe⟩ : ∃ Z, Z = (((partsV 10 l).drop 1).take (nL - 2)).map rowP := ⟨_, rfl⟩
      rw [← hZe] at T hZ
      replace hZe := hide hZe
      replace hoL := hide hoL
      have hg0 := ptG_eq (hnil.out (by omega))
      rw [hC.out, hZ.out] at hg0
      have ct0 : wo.cell? ⟨tb, 0, none⟩ = some (.int .i64 C) := T.tab.cellAt 0 (by omega)
      have ct1 : wo.cell? ⟨tb, 1, none⟩ = some (.slice A1 N1 d1) := T.tab.cellAt 1 (by omega)
      have hF0 := hide (implIsTab C A1 N1 d1 Z wo T.rows.own.rows)
      rcases hTt : isTabB C Z with _ | _
      · have hg := hide (show ptG l = false from ptG_tabno (by rw [hC.out, hZ.out, hTt]))
        replace T := hide T
        replace hg0 := hide hg0
        replace hTb := hide hTb
        have hTt' := hide hTt
        clear hTt
        go_wp2_with fail
        refine hF0.out.mono ?_
        rintro e w6 ⟨rfl, hb6⟩
        rw [hTt'.out]
        have T6 := hide (T.out.later hb6)
        clear ct0 ct1 hb6
        have ct0 : w6.cell? ⟨tb, 0, none⟩ = some (.int .i64 C) := T6.out.tab.cellAt 0 (by omega)
        have ct1 : w6.cell? ⟨tb, 1, none⟩ = some (.slice A1 N1 d1) := T6.out.tab.cellAt 1 (by omega)
        have cr0 : w6.cell? ⟨w.heap.size, 0, none⟩ = some (.int .i64 0) := T6.out.res.cellAt 0 (by omega)
        have cr1 : w6.cell? ⟨w.heap.size, 1, none⟩ = some (.slice none 0 0) := T6.out.res.cellAt 1 (by omega)
        have fr0 := T6.out.res.frozenAt 0
        have fr1 := T6.out.res.frozenAt 1
        have hfin := hide (res_fin T6.out.res T6.out.below)
        go_wp2_with fail
        obtain ⟨z0, z1, hRz, hbz⟩ := hfin.out
        refine bodyPost_ret (v := .tuple #[.agg #[.int .i64 0, .slice none 0 0], .bool false]) (by simp [results, Tryz.results7, go_sem, z0, z1]) rfl ?_
        exact ret_pt hg.out (ptM_no hg.out) (ptR_no hg.out) hRz hbz
      · have hF := hide (fun W (hW : Below wo.heap.size wo W) => implFt C A1 N1 d1 Z W (T.rows.own.rows.later hW) (ht.out.below (hTb.trans (hW.mono hTb.size))))
        replace T := hide T
        replace hTb := hide hTb
        have hTt' := hide hTt
        clear hTt
        rcases hg1 : (ftV C Z == l) with _ | _
        · have hg := hide (show ptG l = false by rw [hg0, hg1])
          have hne : (ftV C Z == l) = false := hg1
          replace hg1 := hide hg1; replace hg0 := hide hg0
          go_wp2_with fail
          refine hF0.out.mono ?_
          rintro e w6 ⟨rfl, hb6⟩
          rw [hTt'.out]
          have T6 := hide (T.out.later hb6)
          have q0 : w6.cell? ⟨tb, 0, none⟩ = some (.int .i64 C) := T6.out.tab.cellAt 0 (by omega)
          have q1 : w6.cell? ⟨tb, 1, none⟩ = some (.slice A1 N1 d1) := T6.out.tab.cellAt 1 (by omega)
          clear ct0 ct1
          go_wp2_with fail
          refine (hF.out _ hb6).mono ?_
          rintro e w7 ⟨rfl, hb7⟩
          have T7 := hide (T6.out.later hb7)
          clear q0 q1 hb6 hb7
          have ct0 : w7.cell? ⟨tb, 0, none⟩ = some (.int .i64 C) := T7.out.tab.cellAt 0 (by omega)
          have ct1 : w7.cell? ⟨tb, 1, none⟩ = some (.slice A1 N1 d1) := T7.out.tab.cellAt 1 (by omega)
          have cr0 : w7.cell? ⟨w.heap.size, 0, none⟩ = some (.int .i64 0) := T7.out.res.cellAt 0 (by omega)
          have cr1 : w7.cell? ⟨w.heap.size, 1, none⟩ = some (.slice none 0 0) := T7.out.res.cellAt 1 (by omega)
          have fr0 := T7.out.res.frozenAt 0
          have fr1 := T7.out.res.frozenAt 1
          have hfin := hide (res_fin T7.out.res T7.out.below)
          go_wp2_with fail
          obtain ⟨z0, z1, hRz, hbz⟩ := hfin.out
          refine bodyPost_ret (v := .tuple #[.agg #[.int .i64 0, .slice none 0 0], .bool false]) (by simp [results, Tryz.results7, go_sem, z0, z1]) rfl ?_
          exact ret_pt hg.out (ptM_no hg.out) (ptR_no hg.out) hRz hbz
        · have hg := hide (show ptG l = true by rw [hg0, hg1])
          have hne : (ftV C Z == l) = true := hg1
          replace hg1 := hide hg1; replace hg0 := hide hg0
          go_wp2_with fail
          refine hF0.out.mono ?_
          rintro e w6 ⟨rfl, hb6⟩
          rw [hTt'.out]
          have T6 := hide (T.out.later hb6)
          have q0 : w6.cell? ⟨tb, 0, none⟩ = some (.int .i64 C) := T6.out.tab.cellAt 0 (by omega)
          have q1 : w6.cell? ⟨tb, 1, none⟩ = some (.slice A1 N1 d1) := T6.out.tab.cellAt 1 (by omega)
          clear ct0 ct1
          go_wp2_with fail
          refine (hF.out _ hb6).mono ?_
          rintro e w7 ⟨rfl, hb7⟩
          have T7 := hide (T6.out.later hb7)
          clear q0 q1 hb6 hb7
          have ct0 : w7.cell? ⟨tb, 0, none⟩ = some (.int .i64 C) := T7.out.tab.cellAt 0 (by omega)
          have ct1 : w7.cell? ⟨tb, 1, none⟩ = some (.slice A1 N1 d1) := T7.out.tab.cellAt 1 (by omega)
          have cr0 : w7.cell? ⟨w.heap.size, 0, none⟩ = some (.int .i64 0) := T7.out.res.cellAt 0 (by omega)
          have cr1 : w7.cell? ⟨w.heap.size, 1, none⟩ = some (.slice none 0 0) := T7.out.res.cellAt 1 (by omega)
          have fr0 := T7.out.res.frozenAt 0
          have fr1 := T7.out.res.frozenAt 1
          have hfin := hide T7.out.fin
          go_wp2_with fail
          obtain ⟨z0, z1, hRz, hbz⟩ := hfin.out
          refine bodyPost_ret (v := .tuple #[.agg #[.int .i64 C, .slice A1 N1 d1], .bool true]) (by simp [results, Tryz.results7, go_sem, z0, z1]) rfl ?_
          exact ret_pt hg.out ((ptM_yes hg.out).trans hC.out) ((ptR_yes hg.out).trans hZ.out) hRz hbz
end Go.Proofs.YtooiobcghobefaaGreatDoor
