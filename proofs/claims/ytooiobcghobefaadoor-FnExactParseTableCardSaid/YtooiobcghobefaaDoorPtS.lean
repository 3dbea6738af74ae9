/-
  Walk of the reference's ParseTable.
  Conditions: as each theorem says.
-/
import Derived.Test.YtooiobcghobefaaDoorPtV
import Derived.Test.YtooiobcghobefaaDoorPtM
import Derived.Test.YtooiobcghobefaaDoorFt
namespace Go.Proofs.YtooiobcghobefaaDoor
open Go.RowKit Go.Lib
set_option linter.unusedVariables false

/-- A table read: what ParseTable hands back. -/
def RetPt (l : List UInt8) (w : World) (e : Ending) (w' : World) : Prop :=
  ∃ (A : Option Addr) (n c : Nat), e = .returned (.tuple #[.agg #[.int .i64 (ptM l), .slice A n c], .bool (ptG l)]) ∧ OwnRows w' w.heap.size A n c (ptR l) ∧ Below w.heap.size w w'
theorem ret_pt {l : List UInt8} {w w' : World} {A : Option Addr} {n c : Nat} {g : Bool} (hg : ptG l = g) {m : Int} (hm : ptM l = m) {zss : List (List Int)} (hz : ptR l = zss) (ho : OwnRows w' w.heap.size A n c zss) (hb : Below w.heap.size w w') :
    RetPt l w (.returned (.tuple #[.agg #[.int .i64 m, .slice A n c], .bool g])) w' := ⟨A, n, c, by rw [hg, hm], by rw [hz]; exact ho, hb⟩
theorem l2cut10 (l : List UInt8) (w : World) (hl : l.length ≤ 1048576) : Calls Tryd.prog 38 #[str l, .int .u8 10] w (RetRow 9 w ((partsV 10 l).map str)) := l2cut l 10 w hl
theorem l2cut32 (l : List UInt8) (w : World) (hl : l.length ≤ 1048576) : Calls Tryd.prog 38 #[str l, .int .u8 32] w (RetRow 9 w ((partsV 32 l).map str)) := l2cut l 32 w hl
set_option maxHeartbeats 3200000 in
set_option maxRecDepth 100000 in
theorem specPt (l : List UInt8) (w : World) (hl : l.length ≤ 1048576) : Calls Tryd.prog 9 #[str l] w (RetPt l w) := by
  obtain ⟨wa, hwa⟩ : ∃ wa, wa = w.alloc (.cells #[.int .i64 0, .slice none 0 0] 24) := ⟨_, rfl⟩
  have hwz : wa.heap.size = w.heap.size + 1 := by rw [hwa]; simp
  have hba : Below w.heap.size w wa := by rw [hwa]; exact (Below.refl _ _).alloc (Nat.le_refl _) _
  have hres : wa.ownsRow w.heap.size 24 1 (.slice (some ⟨w.heap.size, 0, none⟩) 2 2) 2 [.int .i64 0, .slice none 0 0] := by
    rw [hwa]; exact World.ownsRow_lit (e := 24) (size := 1) w #[.int .i64 0, .slice none 0 0] 2 (Nat.le_refl _) (by unfold maxLen; omega) rfl
  replace hwa := hide hwa
  have hcnt := partsV_len 10 l
  have hcl := List.count_le_length (a := (10 : UInt8)) (l := l)
  have hne1 := parts_ne 10 l
  go_enter Tryd.func9, Tryd.ntmps9
  go_wp2_with fail
  rw [← hwa.out]
  refine (l2cut10 l _ hl).mono ?_
  rintro e w1 ⟨AL, nL, cL, rfl, hoL, hb1⟩
  have hnL : (partsV 10 l).length = nL := by have := own_len hoL; simpa using this
  have rL := Reads.of_own hoL
  have hres1 := own_below hres hb1
  have hbw1 : Below w.heap.size w w1 := hba.trans (hb1.mono (by omega))
  have hs1 := hb1.size
  have hll := parts_len 10 l
  rw [hnL] at hcnt hne1
  have hnLb : nL ≤ 1048577 := by omega
  replace hcnt := hide hcnt
  replace hoL := own_more hoL (show w.heap.size ≤ wa.heap.size by omega)
  clear hb1 hba hres
  obtain ⟨bL, oL, s0, rfl, hbbL, hs0, hc0⟩ := at_str (k := 0) rL (by omega)
  have hC := hide (ptC_at hs0)
  have hs0l := hll s0 (List.mem_of_getElem? hs0)
  rw [Nat.add_zero] at hc0
  have T0 := TabQ.start hres1 hbw1 (s0.length : Int) (by omega)
  obtain ⟨tb, htb⟩ : ∃ tb, tb = w1.heap.size := ⟨_, rfl⟩
  obtain ⟨w2, hw2⟩ : ∃ w2, w2 = w1.alloc (.cells #[.int .i64 (s0.length : Int), .slice none 0 0] 24) := ⟨_, rfl⟩
  have hb12 : Below w1.heap.size w1 w2 := by rw [hw2]; exact (Below.refl _ _).alloc (Nat.le_refl _) _
  rw [← hw2, ← htb] at T0
  obtain ⟨C, hCe⟩ : ∃ C : Int, C = (s0.length : Int) := ⟨_, rfl⟩
  rw [← hCe] at T0 hC
  replace hs0 := hide hs0
  replace hw2 := hide hw2
  replace htb := hide htb
  replace hCe := hide hCe
  replace hres1 := hide hres1
  go_wp2_with fail
  rw [← hCe.out]
  rw [← hCe.out] at hw2
  rw [← hw2.out, ← htb.out]
  replace hoL := own_below hoL hb12
  clear hc0 rL
  go_loopw [6, 8, 9] (fun i _ _ wr => ∃ (k N d : Nat) (A' : Option Addr), i = .int .i64 ((k : Int) + 1) ∧ k ≤ nL - 2 ∧ TabQ w wr tb C A' N d ((((partsV 10 l).drop 1).take k).map rowP) ∧ wr.ownsRow w.heap.size 9 1 (.slice (some ⟨bL, oL, none⟩) nL cL) nL ((partsV 10 l).map str)) (fun i _ _ _ => nL - (RowKit.intOf i).toNat)
  case atStart => exact ⟨0, 0, 0, none, rfl, by omega, T0, hoL⟩
  case round =>
    clear hoL
    obtain ⟨i, N1, d1, A1, rfl, hi, T, hoL⟩ := hrel
    obtain ⟨wo, hwo0⟩ : ∃ wo : World, wo = wr := ⟨_, rfl⟩
    subst hwo0
    clear T0
    have hN1 : N1 ≤ 1048577 := by have := T.rows.1; rw [List.length_map, List.length_take] at this; omega
    by_cases hlt : i + 2 < nL
    · obtain ⟨b1, o1, ln, hA, hbb1, hln, hcln⟩ := at_str (k := i + 1) (Reads.of_own hoL) (by omega)
      cases hA
      have hlnl := hll ln (List.mem_of_getElem? hln)
      have hcut := hide (fun X => l2cut32 ln X (by omega))
      have hstep := hide (rows_step hln)
      have dd1 : decide ((i : Int) + 1 + 1 < (nL : Int)) = true := by simp; omega
      have hpl := parts_len 32 ln
      have hpn := partsV_len 32 ln
      have hpc := List.count_le_length (a := (32 : UInt8)) (l := ln)
      replace T := hide T
      replace hoL := hide hoL
      replace hln := hide hln
      replace hpl := hide hpl
      go_wp2_with fail
      refine (hcut.out _).mono ?_
      rintro e w3 ⟨AW, nW, cW, rfl, hoW, hb3⟩
      have hnW : (partsV 32 ln).length = nW := by have := own_len hoW; simpa using this
      rw [hnW] at hpn
      have hnWb : nW ≤ 1048577 := by omega
      have rW := Reads.of_own hoW
      have hst := own_start w3 3
      have hal : Below w3.heap.size w3 (w3.alloc (.cells #[] 3)) := (Below.refl _ _).alloc (Nat.le_refl _) _
      replace hpn := hide hpn
      clear hpc hoW
      go_wp2_with fail
      go_loopw [8, 9] (fun s j wq => ∃ (k N d : Nat) (A' : Option Addr), j = .int .i64 (k : Int) ∧ k ≤ nW ∧ s = .slice A' N d ∧ wq.ownsRow w3.heap.size 3 1 (.slice A' N d) N ((((partsV 32 ln).take k).map ptVal).map (Value.int .i64)) ∧ Below w3.heap.size w3 wq) (fun _ j _ => nW - (RowKit.intOf j).toNat)
      case atStart => exact ⟨0, 0, 0, _, rfl, by omega, rfl, hst, hal⟩
      case round =>
        clear hst hal
        obtain ⟨k, N3, c3, A3, rfl, hk3, rfl, hrow, hbq⟩ := hrel
        have hN3 : N3 ≤ nW := by have := own_len hrow; rw [List.length_map, List.length_map, List.length_take] at this; omega
        by_cases hkl : k < nW
        · obtain ⟨b3, o3, s, rfl, hbb3, hs3, hc3⟩ := at_str ((rW.below hbq).more hbq.size) hkl
          have hsl := hpl.out s (List.mem_of_getElem? hs3)
          have hI := hide (fun X => specVal s X (by omega))
          have hst3 := hide (show (((partsV 32 ln).take k).map ptVal).map (Value.int .i64) ++ [.int .i64 (ptVal s)] = (((partsV 32 ln).take (k + 1)).map ptVal).map (Value.int .i64) by rw [← rowP_step hs3]; simp)
          replace hs3 := hide hs3
          replace hrow := hide hrow
          go_wp2_with fail
          refine (hI.out _).mono ?_
          rintro e w4 ⟨rfl, hb4⟩
          have hrow2 := own_below hrow.out hb4
          have hbq2 := below_call hbq hb4
          have hs4 := hbq2.size
          clear hb4
          go_wp2_with (at_builtin; refine wpList_push elemInt rfl (.tmp 36) (.tmp 42) w4 (.int .i64 (ptVal s)) rfl w3.heap.size (.slice A3 N3 c3) N3 _ rfl rfl hrow2 rfl (by omega) hs4 ?_; intro A5 c5 w5 hown5 hg5 hat5; have hbq5 := below_push hbq2 hs4 hrow2 hg5; rw [hst3.out] at hown5; clear hg5 hat5 hrow2 hbq2)
          go_roundw
          case rel => exact ⟨k + 1, N3 + 1, c5, A5, by go_num, by omega, rfl, hown5, hbq5⟩
          case measure => simp [RowKit.intOf]; omega
        · obtain rfl : k = nW := by omega
          have hrow1 : wr.ownsRow wo.heap.size 3 1 (.slice A3 N3 c3) N3 ((rowP ln).map (Value.int .i64)) := by
            have := own_more hrow hb3.size
            rwa [List.take_of_length_le (by omega)] at this
          have hbq2 := below_call hb3 hbq
          replace hoL := own_below hoL.out hbq2
          replace hrow := hrow1
          clear hrow1 rW
          obtain ⟨lz, vs, hV⟩ := T.out.rows.below hbq2
          have htab4 := own_below T.out.tab hbq2
          have hs4 := Nat.le_trans T.out.below.size hbq2.size
          have ct1 : wr.cell? ⟨tb, 1, none⟩ = some (.slice A1 N1 d1) := htab4.cellAt 1 (by omega)
          have hV' := hide hV
          have hV1 := hV.1
          have htab4' := hide htab4
          have lz' := hide lz
          have hrow' := hide hrow
          have hoL' := hide hoL
          clear hV htab4 lz hrow hoL
          go_wp2_with (at_builtin; refine wpList_push elemS rfl (.tmp 45) (.tmp 47) wr (.slice A3 N3 c3) rfl w.heap.size (.slice A1 N1 d1) N1 _ rfl rfl hV1 rfl (by omega) hs4 ?_; intro A5 c5 w5 hown5 hg5 hat5; have htab5 := World.ownsRow.kept htab4'.out hg5 (own_types htab4'.out hV1 (by decide)); have ct5 : w5.cell? ⟨tb, 1, none⟩ = some (.slice A1 N1 d1) := htab5.cellAt 1 (by omega); have ft5 := htab5.frozenAt 1; have T5 := hide (TabQ.push T.out hbq2 lz'.out hV'.out hrow'.out hown5 hg5); have hoL4 := World.ownsRow.kept hoL'.out hg5 (own_types hoL'.out hV1 (by decide)); have hoL5 := hide (own_store (o := 1) (.slice A5 (N1 + 1) c5) hoL4 (own_types hoL4 htab5 (by decide))); clear htab5 hoL4 hown5 hg5 hat5)
          go_roundw
          case rel => exact ⟨i + 1, N1 + 1, c5, A5, by go_num, by omega, by rw [hstep.out]; exact T5.out, hoL5.out⟩
          case measure => simp [RowKit.intOf]; omega
    · obtain rfl : i = nL - 2 := by omega
      have hZ := hide (show ptZ l = (((partsV 10 l).drop 1).take (nL - 2)).map rowP by unfold ptZ ptRows; rw [hnL])
      obtain ⟨Z, hZe⟩ : ∃ Z, Z = (((partsV 10 l).drop 1).take (nL - 2)).map rowP := ⟨_, rfl⟩
      rw [← hZe] at T hZ
      have dd1 : decide (((nL - 2 : Nat) : Int) + 1 + 1 < (nL : Int)) = false := by simp; omega
      replace hZe := hide hZe
      replace hoL := hide hoL
      rcases hl0 : (l == []) with _ | _
      · have hg0 := ptG_eq (beq_eq_false_iff_ne.1 hl0)
        rw [hC.out, hZ.out] at hg0
        have ct0 : wo.cell? ⟨tb, 0, none⟩ = some (.int .i64 C) := T.tab.cellAt 0 (by omega)
        have ct1 : wo.cell? ⟨tb, 1, none⟩ = some (.slice A1 N1 d1) := T.tab.cellAt 1 (by omega)
        have hF := hide (specFt C A1 N1 d1 Z wo T.rows.own.rows)
        replace T := hide T
        rcases hg1 : (ftV C Z == l) with _ | _
        · have hg := hide (show ptG l = false by rw [hg0, hg1])
          have hne : (ftV C Z == l) = false := hg1
          replace hg1 := hide hg1; replace hg0 := hide hg0
          go_wp2_with fail
          refine hF.out.mono ?_
          rintro e w6 ⟨rfl, hb6⟩
          have T6 := hide (T.out.later hb6)
          clear ct0 ct1 hb6
          have ct0 : w6.cell? ⟨tb, 0, none⟩ = some (.int .i64 C) := T6.out.tab.cellAt 0 (by omega)
          have ct1 : w6.cell? ⟨tb, 1, none⟩ = some (.slice A1 N1 d1) := T6.out.tab.cellAt 1 (by omega)
          have cr0 : w6.cell? ⟨w.heap.size, 0, none⟩ = some (.int .i64 0) := T6.out.res.cellAt 0 (by omega)
          have cr1 : w6.cell? ⟨w.heap.size, 1, none⟩ = some (.slice none 0 0) := T6.out.res.cellAt 1 (by omega)
          have fr0 := T6.out.res.frozenAt 0
          have fr1 := T6.out.res.frozenAt 1
          have hfin := hide (res_fin T6.out.res T6.out.below)
          go_wp2_with fail
          obtain ⟨z0, z1, hRz, hbz⟩ := hfin.out
          refine bodyPost_ret (v := .tuple #[.agg #[.int .i64 0, .slice none 0 0], .bool false]) (by simp [results, Tryd.results9, go_sem, z0, z1]) rfl ?_
          exact ret_pt hg.out (ptM_no hg.out) (ptR_no hg.out) hRz hbz
        · have hg := hide (show ptG l = true by rw [hg0, hg1])
          have hne : (ftV C Z == l) = true := hg1
          replace hg1 := hide hg1; replace hg0 := hide hg0
          go_wp2_with fail
          refine hF.out.mono ?_
          rintro e w6 ⟨rfl, hb6⟩
          have T6 := hide (T.out.later hb6)
          clear ct0 ct1 hb6
          have ct0 : w6.cell? ⟨tb, 0, none⟩ = some (.int .i64 C) := T6.out.tab.cellAt 0 (by omega)
          have ct1 : w6.cell? ⟨tb, 1, none⟩ = some (.slice A1 N1 d1) := T6.out.tab.cellAt 1 (by omega)
          have cr0 : w6.cell? ⟨w.heap.size, 0, none⟩ = some (.int .i64 0) := T6.out.res.cellAt 0 (by omega)
          have cr1 : w6.cell? ⟨w.heap.size, 1, none⟩ = some (.slice none 0 0) := T6.out.res.cellAt 1 (by omega)
          have fr0 := T6.out.res.frozenAt 0
          have fr1 := T6.out.res.frozenAt 1
          have hfin := hide T6.out.fin
          go_wp2_with fail
          obtain ⟨z0, z1, hRz, hbz⟩ := hfin.out
          refine bodyPost_ret (v := .tuple #[.agg #[.int .i64 C, .slice A1 N1 d1], .bool true]) (by simp [results, Tryd.results9, go_sem, z0, z1]) rfl ?_
          exact ret_pt hg.out ((ptM_yes hg.out).trans hC.out) ((ptR_yes hg.out).trans hZ.out) hRz hbz
      · have hg := hide (show ptG l = false by rw [beq_iff_eq.1 hl0]; rfl)
        replace T := hide T
        have ct0 : wo.cell? ⟨tb, 0, none⟩ = some (.int .i64 C) := T.out.tab.cellAt 0 (by omega)
        have ct1 : wo.cell? ⟨tb, 1, none⟩ = some (.slice A1 N1 d1) := T.out.tab.cellAt 1 (by omega)
        have cr0 : wo.cell? ⟨w.heap.size, 0, none⟩ = some (.int .i64 0) := T.out.res.cellAt 0 (by omega)
        have cr1 : wo.cell? ⟨w.heap.size, 1, none⟩ = some (.slice none 0 0) := T.out.res.cellAt 1 (by omega)
        have fr0 := T.out.res.frozenAt 0
        have fr1 := T.out.res.frozenAt 1
        have hfin := hide (res_fin T.out.res T.out.below)
        go_wp2_with fail
        obtain ⟨z0, z1, hRz, hbz⟩ := hfin.out
        refine bodyPost_ret (v := .tuple #[.agg #[.int .i64 0, .slice none 0 0], .bool false]) (by simp [results, Tryd.results9, go_sem, z0, z1]) rfl ?_
        exact ret_pt hg.out (ptM_no hg.out) (ptR_no hg.out) hRz hbz
end Go.Proofs.YtooiobcghobefaaDoor
