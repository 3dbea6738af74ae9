/-
  Walk of the program's ProjectTable.
  Conditions: as each theorem says.
-/
import Derived.Test.YtooiobcghobefaaGreatDoorPjS
import Derived.Test.YtooiobcghobefaaGreatDoorCmpF
namespace Go.Proofs.YtooiobcghobefaaGreatDoor
open Go.RowKit Go.Sort
set_option linter.unusedVariables false

/-- A projected table in the call's own memory. -/
def RetPj (m : Int) (zss : List (List Int)) (s : Int) (w : World) (e : Ending) (w' : World) : Prop :=
  ∃ (A : Option Addr) (n c : Nat), e = .returned (.agg #[.int .i64 (prjM m zss s), .slice A n c]) ∧ OwnRows w' w.heap.size A n c (prjR m zss s) ∧ Below w.heap.size w w'
theorem ret_pj {m s : Int} {zss : List (List Int)} {w w' : World} {A : Option Addr} {n c : Nat} {M : Int} {R : List (List Int)} (hm : prjM m zss s = M) (hr : prjR m zss s = R) (ho : OwnRows w' w.heap.size A n c R) (hb : Below w.heap.size w w') :
    RetPj m zss s w (.returned (.agg #[.int .i64 M, .slice A n c])) w' := ⟨A, n, c, by rw [hm], by rw [hr]; exact ho, hb⟩
/-- The struct's rows replaced. -/
theorem TabQ.swap {w0 w7 : World} {tb N d k d' : Nat} {col : Int} {A A' : Option Addr} {zss : List (List Int)} (htab : w7.ownsRow w0.heap.size 26 1 (.slice (some ⟨tb, 0, none⟩) 2 2) 2 [.int .i64 col, .slice A N d])
    (hR : RowsU w7 w0.heap.size w7.heap.size A' k d' zss) (hres : w7.ownsRow w0.heap.size 26 1 (.slice (some ⟨w0.heap.size, 0, none⟩) 2 2) 2 [.int .i64 0, .slice none 0 0]) (hb : Below w0.heap.size w0 w7) (hgt : w0.heap.size < tb) :
    TabQ w0 (w7.setCell ⟨tb, 1, none⟩ (.slice A' k d')) tb col A' k d' zss := by
  have hs := grown_setCell w7 tb 1 (.slice A' k d')
  exact ⟨(htab.stored 1 _).1, (hR.other htab (by decide) (.inl (by decide)) hs).bound, own_store (o := 1) (.slice A' k d') hres (g := tb) (.inr (by simp [Value.ownBlock]; omega)), hb.grown hs hb.size (fun k hk => by cases hk; omega), hgt⟩
theorem zip_fst {vs : List Value} {zss : List (List Int)} (h : vs.length = zss.length) : (vs.zip zss).map (fun p : PR => p.1) = vs := by
  rw [show (fun p : PR => p.1) = Prod.fst from rfl, List.map_fst_zip (by omega)]
theorem zip_snd {vs : List Value} {zss : List (List Int)} (h : vs.length = zss.length) : (vs.zip zss).map (fun p : PR => p.2) = zss := by
  rw [show (fun p : PR => p.2) = Prod.snd from rfl, List.map_snd_zip (by omega)]
set_option maxRecDepth 100000 in
theorem compact0 (A : Option Addr) (c : Nat) (fv : Value) (w : World) : Calls Tryz.prog 42 #[.slice A 0 c, fv] w fun e w' => e = .returned (.slice A 0 c) ∧ w = w' := by
  go_enter Tryz.func42, Tryz.ntmps42
  go_wp2_with fail
  go_ret
  exact ⟨rfl, rfl⟩
/-- Sorted, then cut: the different rows in order. -/
theorem cut_rows {w w6 w7 : World} {B H g n d k : Nat} {zss : List (List Int)} {vs : List Value} {ps' : List PR} (lz : zss.length = n) (hV : RowsV w B H (some ⟨g, 0, none⟩) n d zss vs) (hp : ps'.Perm (vs.zip zss)) (hs : SrtZ ps')
    (ho6 : w6.ownsRow B 37 1 (.slice (some ⟨g, 0, none⟩) n d) n (ps'.map (·.1))) (hI6 : Inner w6 B ps') (ho7 : w7.ownsRow B 37 1 (.slice (some ⟨g, 0, none⟩) k d) k ((cmpP ps').map (·.1))) (hg7 : w6.grownBy w7 (some g)) :
    RowsU w7 B w7.heap.size (some ⟨g, 0, none⟩) k d (onceL zss) := by
  have h1 := ((hI6.kept ho6 hg7).sub (cmpP_sub ps')).rows ho7
  rw [cmpP_once hs, onceL_perm (hp.map (fun p : PR => p.2)), zip_snd (by have := own_len hV.1; omega)] at h1
  exact h1
set_option maxHeartbeats 6400000 in
set_option maxRecDepth 100000 in
theorem implPrj (m : Int) (A : Option Addr) (n c : Nat) (zss : List (List Int)) (s : Int) (w : World) (h : RowsAt w w.heap.size A n zss) :
    Calls Tryz.prog 13 #[.agg #[.int .i64 m, .slice A n c], .int .i64 s] w (RetPj m zss s w) := by
  have lz := h.1
  have hn := rows_bound h
  obtain ⟨wb, hwb⟩ : ∃ wb, wb = w.alloc (.cells #[.int .i64 m, .slice A n c] 26) := ⟨_, rfl⟩
  have hbx : Below w.heap.size w wb := by rw [hwb]; go_grown
  have h0 := h.later hbx
  have k0 : wb.cell? ⟨w.heap.size, 0, none⟩ = some (.int .i64 m) := by rw [hwb, World.cell?_alloc_at _ _ _ _ rfl]; rfl
  have k1 : wb.cell? ⟨w.heap.size, 1, none⟩ = some (.slice A n c) := by rw [hwb, World.cell?_alloc_at _ _ _ _ rfl]; rfl
  have hk : w.heap.size < wb.heap.size := by rw [hwb]; simp
  have hsz : wb.heap.size = w.heap.size + 1 := by rw [hwb]; simp
  obtain ⟨wa, hwa⟩ : ∃ wa, wa = wb.alloc (.cells #[.int .i64 0, .slice none 0 0] 26) := ⟨_, rfl⟩
  have hba : Below wb.heap.size wb wa := by rw [hwa]; exact (Below.refl _ _).alloc (Nat.le_refl _) _
  have hgt : wb.heap.size < wa.heap.size := by rw [hwa]; simp
  have hres : wa.ownsRow wb.heap.size 26 1 (.slice (some ⟨wb.heap.size, 0, none⟩) 2 2) 2 [.int .i64 0, .slice none 0 0] := by
    rw [hwa]; exact World.ownsRow_lit (e := 26) (size := 1) wb #[.int .i64 0, .slice none 0 0] 2 (Nat.le_refl _) (by unfold maxLen; omega) rfl
  have q0 := cell_below hba k0 hk
  have q1 := cell_below hba k1 hk
  have hI := hide (implIsTab m A n c zss wa (h0.later hba))
  replace hwa := hide hwa
  replace hwb := hide hwb
  replace hres := hide hres
  have hk1 := hide (fun (W : World) (hW : Below wb.heap.size wb W) => cell_below hW k1 hk)
  have hk0 := hide (fun (W : World) (hW : Below wb.heap.size wb W) => cell_below hW k0 hk)
  replace hsz := hide hsz
  clear h k0 k1
  go_enter Tryz.func13, Tryz.ntmps13
  go_upto_region 1 with fail
  rw [← hwb.out, ← hwa.out]
  rw [← hsz.out]
  rcases hG : prjG m zss s with _ | _
  · have hcase : isTabB m zss = false ∨ (isTabB m zss = true ∧ s = 0) ∨ (isTabB m zss = true ∧ s ≠ 0 ∧ isAttrB m s = false) := by
      unfold prjG at hG
      rcases h1 : isTabB m zss with _ | _
      · exact .inl rfl
      · by_cases h2 : s = 0
        · exact .inr (.inl ⟨rfl, h2⟩)
        · have h3 : (s == 0) = false := by simpa using h2
          rw [h1, h3] at hG
          exact .inr (.inr ⟨rfl, h2, by simpa using hG⟩)
    have hm0 := hide (prjM_no hG)
    have hr0 := hide (prjR_no hG)
    clear hG
    rcases hcase with hT | ⟨hT, hs0⟩ | ⟨hT, hs0, hA⟩
    · replace hT := hide hT
      go_wp2_with (go_at_call 11; refine hI.out.mono ?_; rintro e w1 ⟨rfl, hb1⟩; rw [hT.out]; have hres1 := own_below hres.out hb1; have hbw1 := hba.trans (hb1.mono hba.size); have cr0 : w1.cell? ⟨wb.heap.size, 0, none⟩ = some (.int .i64 0) := hres1.cellAt 0 (by omega); have cr1 : w1.cell? ⟨wb.heap.size, 1, none⟩ = some (.slice none 0 0) := hres1.cellAt 1 (by omega); have fr0 := hres1.frozenAt 0; have fr1 := hres1.frozenAt 1; have hfin := hide (res_fin hres1 hbw1); have p0 := hk0.out w1 hbw1)
      obtain ⟨z0, z1, hRz, hbz⟩ := hfin.out
      refine bodyPost_ret (v := .agg #[.int .i64 0, .slice none 0 0]) (by simp [results, Tryz.results13, go_sem, z0, z1]) rfl ?_
      exact ret_pj hm0.out hr0.out (hRz.more hbx.size) (below_call hbx hbz)
    · replace hT := hide hT
      have e0 : ((s : Int) == 0) = true := by rw [hs0]; rfl
      replace hs0 := hide hs0
      go_wp2_with (go_at_call 11; refine hI.out.mono ?_; rintro e w1 ⟨rfl, hb1⟩; rw [hT.out]; have hres1 := own_below hres.out hb1; have hbw1 := hba.trans (hb1.mono hba.size); have cr0 : w1.cell? ⟨wb.heap.size, 0, none⟩ = some (.int .i64 0) := hres1.cellAt 0 (by omega); have cr1 : w1.cell? ⟨wb.heap.size, 1, none⟩ = some (.slice none 0 0) := hres1.cellAt 1 (by omega); have fr0 := hres1.frozenAt 0; have fr1 := hres1.frozenAt 1; have hfin := hide (res_fin hres1 hbw1); have p0 := hk0.out w1 hbw1)
      obtain ⟨z0, z1, hRz, hbz⟩ := hfin.out
      refine bodyPost_ret (v := .agg #[.int .i64 0, .slice none 0 0]) (by simp [results, Tryz.results13, go_sem, z0, z1]) rfl ?_
      exact ret_pj hm0.out hr0.out (hRz.more hbx.size) (below_call hbx hbz)
    · replace hT := hide hT
      have hAt := hide (fun X => implAttr m s X)
      replace hA := hide hA
      have e0 : ((s : Int) == 0) = false := by simpa using hs0
      replace hs0 := hide hs0
      go_wp2_with (first
        | (go_at_call 11; refine hI.out.mono ?_; rintro e w1 ⟨rfl, hb1⟩; rw [hT.out]; have hres1 := own_below hres.out hb1; have hbw1 := hba.trans (hb1.mono hba.size); have cr0 : w1.cell? ⟨wb.heap.size, 0, none⟩ = some (.int .i64 0) := hres1.cellAt 0 (by omega); have cr1 : w1.cell? ⟨wb.heap.size, 1, none⟩ = some (.slice none 0 0) := hres1.cellAt 1 (by omega); have fr0 := hres1.frozenAt 0; have fr1 := hres1.frozenAt 1; have hfin := hide (res_fin hres1 hbw1); have p0 := hk0.out w1 hbw1)
        | (go_at_call 38; refine (hAt.out _).mono ?_; rintro e w2 ⟨rfl, rfl⟩; rw [hA.out]))
      obtain ⟨z0, z1, hRz, hbz⟩ := hfin.out
      refine bodyPost_ret (v := .agg #[.int .i64 0, .slice none 0 0]) (by simp [results, Tryz.results13, go_sem, z0, z1]) rfl ?_
      exact ret_pj hm0.out hr0.out (hRz.more hbx.size) (below_call hbx hbz)
  · have hG2 := hG
    unfold prjG at hG2
    simp only [Bool.and_eq_true, Bool.not_eq_true', beq_eq_false_iff_ne, ne_eq] at hG2
    obtain ⟨hT, hA, hs0⟩ := hG2
    have hmG := hide (prjM_yes hG)
    have hrG := hide (prjR_yes hG)
    obtain ⟨m1, m5, m40, hlen⟩ := isTab_m hT
    obtain ⟨ms, hms⟩ : ∃ ms, ms = memL s := ⟨_, rfl⟩
    have hmem := hide (fun (i : Int) (hi : i ∈ ms) => (show 0 ≤ i ∧ i < m from ⟨(memL_mem s i (hms ▸ hi)).1, memL_lt hA (hms ▸ hi)⟩))
    have hml : ms.length ≤ 5 := by rw [hms]; exact memL_len s
    have hMm := hide (fun X => implMem s X)
    rw [← hms] at hMm hmG hrG
    have hAt := hide (fun X => implAttr m s X)
    have e0 : ((s : Int) == 0) = false := by simpa using hs0
    replace hs0 := hide hs0
    replace hT := hide hT
    replace hA := hide hA
    replace hlen := hide hlen
    replace hms := hide hms
    clear hG
    go_upto_region 4 with (first
      | (go_at_call 11; refine hI.out.mono ?_; rintro e w1 ⟨rfl, hb1⟩; rw [hT.out]; have hres1 := own_below hres.out hb1; have hbw1 := hba.trans (hb1.mono hba.size); have cr0 : w1.cell? ⟨wb.heap.size, 0, none⟩ = some (.int .i64 0) := hres1.cellAt 0 (by omega); have cr1 : w1.cell? ⟨wb.heap.size, 1, none⟩ = some (.slice none 0 0) := hres1.cellAt 1 (by omega); have fr0 := hres1.frozenAt 0; have fr1 := hres1.frozenAt 1; have hfin := hide (res_fin hres1 hbw1); have p0 := hk0.out w1 hbw1)
      | (go_at_call 38; refine (hAt.out _).mono ?_; rintro e w2 ⟨rfl, rfl⟩; rw [hA.out])
      | (go_at_call 39; refine (hMm.out _).mono ?_; rintro e w3 ⟨Am, lm, cm, rfl, hoM, hb3⟩; have hres3 := own_below hres1 hb3; have hbw3 := hbw1.trans (hb3.mono hbw1.size); have hlt3 := Nat.lt_of_lt_of_le hgt (Nat.le_trans hb1.size hb3.size); replace hoM := own_more hoM hbw1.size))
    have hlm : ms.length = lm := by have := own_len hoM; simpa using this
    have hp1 := hk1.out w3 hbw3
    have T0 := TabQ.start hres3 hbw3 (lm : Int) hlt3
    obtain ⟨tb, htb⟩ : ∃ tb, tb = w3.heap.size := ⟨_, rfl⟩
    obtain ⟨w4, hw4⟩ : ∃ w4, w4 = w3.alloc (.cells #[.int .i64 (lm : Int), .slice none 0 0] 26) := ⟨_, rfl⟩
    have hb34 : Below w3.heap.size w3 w4 := by rw [hw4]; exact (Below.refl _ _).alloc (Nat.le_refl _) _
    have p1 := hk1.out w4 (hbw3.trans (hb34.mono hbw3.size))
    rw [← hw4, ← htb] at T0
    replace hw4 := hide hw4
    replace htb := hide htb
    replace hoM := own_below hoM hb34
    clear hbw3 hres3 hbw1 hres1 q0 q1 p0 hb1 hb3 cr0 cr1 fr0 fr1 hfin hp1
    go_upto_region 5 with fail
    rw [← hw4.out, ← htb.out]
    go_wp2_with fail
    go_loopw [35] (fun i wr => ∃ (k N d : Nat) (A' : Option Addr), i = .int .i64 (k : Int) ∧ k ≤ n ∧ TabQ wb wr tb (lm : Int) A' N d ((zss.take k).map (prjRow ms)) ∧ wr.ownsRow wb.heap.size 3 1 (.slice Am lm cm) lm (ms.map (Value.int .i64))) (fun i _ => n - (intOf i).toNat)
    case atStart => exact ⟨0, 0, 0, none, rfl, by omega, T0, hoM⟩
    case round =>
      clear T0 hoM p1
      obtain ⟨i, N1, d1, A1, rfl, hi, T, hoL⟩ := hrel
      obtain ⟨wo, hwo0⟩ : ∃ wo : World, wo = wr := ⟨_, rfl⟩
      subst hwo0
      have hN1 : N1 ≤ 40 := by have := T.rows.1; rw [List.length_map, List.length_take] at this; omega
      have hb := T.below
      by_cases hlt : i < n
      · obtain ⟨b, o, zs, Ax, cx, rfl, hbb, hzs, hcx0, hrx0⟩ := at_row h0 hlt
        have hzl := hlen.out i zs hzs
        have hstep := hide (mapf_take_succ (f := prjRow ms) hzs)
        have hrx := (hrx0.below hb).more hb.size
        have hcx := (hb.cell (p := ⟨b, o + i, none⟩) hbb).trans hcx0
        have hbo : b < wo.heap.size := Nat.lt_of_lt_of_le hbb hb.size
        have hst := own_start wo 3
        have hal : Below wo.heap.size wo (wo.alloc (.cells #[] 3)) := (Below.refl _ _).alloc (Nat.le_refl _) _
        have hrM := Reads.of_own hoL
        replace T := hide T
        replace hoL := hide hoL
        replace hzs := hide hzs
        clear hcx0 hrx0
        go_wp2_with fail
        go_loopw [9, 42] (fun l j wq => ∃ (k N d : Nat) (A' : Option Addr), j = .int .i64 (k : Int) ∧ k ≤ lm ∧ l = .slice A' N d ∧ wq.ownsRow wo.heap.size 3 1 (.slice A' N d) N ((prjRow (ms.take k) zs).map (Value.int .i64)) ∧ Below wo.heap.size wo wq) (fun _ j _ => lm - (intOf j).toNat)
        case atStart => exact ⟨0, 0, 0, _, rfl, by omega, rfl, hst, hal⟩
        case round =>
          clear hst hal
          obtain ⟨k, N3, c3, A3, rfl, hk3, rfl, hrow, hbq⟩ := hrel
          have hN3 : N3 ≤ 5 := by have := own_len hrow; rw [List.length_map, prjRow_len, List.length_take] at this; omega
          by_cases hkl : k < lm
          · obtain ⟨bm, om, cI, rfl, hbm, hck, hcm0⟩ := at_int hrM hkl
            obtain ⟨c0, c1⟩ := hmem.out cI (List.mem_of_getElem? hck)
            obtain ⟨j, rfl⟩ : ∃ j : Nat, cI = (j : Int) := ⟨cI.toNat, by omega⟩
            obtain ⟨bx, ox, v, rfl, hbx', hv, hcv0⟩ := at_int (k := j) hrx (by omega)
            have hst3 := hide (show (prjRow (ms.take k) zs).map (Value.int .i64) ++ [.int .i64 v] = (prjRow (ms.take (k + 1)) zs).map (Value.int .i64) by
              rw [prjRow_step hck, Int.toNat_natCast, List.getD_eq_getElem?_getD, hv]; simp)
            have f3 : wr.cell? ⟨bm, om + k, none⟩ = some (.int .i64 (j : Int)) := cell_below hbq hcm0 hbm
            have f4 : wr.cell? ⟨bx, ox + j, none⟩ = some (.int .i64 v) := cell_below hbq hcv0 hbx'
            have i2 : (k : Int) < (lm : Int) := by omega
            have i3 : (j : Int) < (zs.length : Int) := by omega
            have i3' : j < zs.length := by omega
            have hsq := hbq.size
            generalize zs.length = lx at *
            replace hck := hide hck
            replace hv := hide hv
            clear hcx hcm0 hcv0 hrx hrM
            go_wp2_with (at_builtin; refine wpList_push elemInt rfl (.tmp 46) (.tmp 51) wr (.int .i64 v) rfl wo.heap.size (.slice A3 N3 c3) N3 _ rfl rfl hrow rfl (by omega) hsq ?_; intro A6 c6 w6 hown6 hg6 hat6; have hbn := below_push hbq hsq hrow hg6; rw [hst3.out] at hown6; clear hg6 hat6)
            go_roundw
            case rel => exact ⟨k + 1, N3 + 1, c6, A6, by go_num, by omega, rfl, hown6, hbn⟩
            case measure => simp [intOf]; omega
          · obtain rfl : k = lm := by omega
            have hrow1 : wr.ownsRow wo.heap.size 3 1 (.slice A3 N3 c3) N3 ((prjRow ms zs).map (Value.int .i64)) := by
              rwa [List.take_of_length_le (by omega)] at hrow
            have hbq2 := hbq
            replace hoL := own_below hoL.out hbq2
            replace hrow := hrow1
            clear hrow1 hrM hrx hcx
            obtain ⟨lz, vs, hV⟩ := T.out.rows.below hbq2
            have htab4 := own_below T.out.tab hbq2
            have hs4 := Nat.le_trans T.out.below.size hbq2.size
            have ct1 : wr.cell? ⟨tb, 1, none⟩ = some (.slice A1 N1 d1) := htab4.cellAt 1 (by omega)
            have hV' := hide hV
            have hV1 := hV.1
            have htab4' := hide htab4
            have lz' := hide lz
            have hrow' := hide hrow
            have hoL' := hide hoL
            clear hV htab4 lz hrow hoL
            go_wp2_with (at_builtin; refine wpList_push elemS rfl (.tmp 55) (.tmp 57) wr (.slice A3 N3 c3) rfl wb.heap.size (.slice A1 N1 d1) N1 _ rfl rfl hV1 rfl (by omega) hs4 ?_; intro A5 c5 w5 hown5 hg5 hat5; have htab5 := World.ownsRow.kept htab4'.out hg5 (own_types htab4'.out hV1 (by decide)); have ct5 : w5.cell? ⟨tb, 1, none⟩ = some (.slice A1 N1 d1) := htab5.cellAt 1 (by omega); have ft5 := htab5.frozenAt 1; have T5 := hide (TabQ.push T.out hbq2 lz'.out hV'.out hrow'.out hown5 hg5); have hoL4 := World.ownsRow.kept hoL'.out hg5 (own_types hoL'.out hV1 (by decide)); have hoL5 := hide (own_store (o := 1) (.slice A5 (N1 + 1) c5) hoL4 (own_types hoL4 htab5 (by decide))); clear htab5 hoL4 hown5 hg5 hat5)
            go_roundw
            case rel => exact ⟨i + 1, N1 + 1, c5, A5, by go_num, by omega, by rw [hstep.out]; exact T5.out, hoL5.out⟩
            case measure => simp [intOf]; omega
      · obtain rfl : i = n := by omega
        rw [List.take_of_length_le (by omega)] at T
        obtain ⟨lzR, vs, hV⟩ := T.rows
        have hV1 := hV.1
        have ct1 : wo.cell? ⟨tb, 1, none⟩ = some (.slice A1 N1 d1) := T.tab.cellAt 1 (by omega)
        have hgtb := T.gt
        replace hoL := hide hoL
        rcases Nat.eq_zero_or_pos N1 with hN0 | hNp
        · subst hN0
          have hz0 : zss.map (prjRow ms) = [] := List.length_eq_zero_iff.1 lzR
          have hrE := hide (show prjR m zss s = [] by rw [hrG.out, hz0]; rfl)
          have hS := hide (fun fv => sort0 A1 d1 fv wo)
          have hC := hide (fun fv => compact0 A1 d1 fv wo)
          rw [hz0] at T
          have T8 := TabQ.swap T.tab T.rows T.res T.below T.gt
          have ft := T.tab.frozenAt 1
          have w80 : (wo.setCell ⟨tb, 1, none⟩ (.slice A1 0 d1)).cell? ⟨tb, 0, none⟩ = some (.int .i64 (lm : Int)) := T8.tab.cellAt 0 (by omega)
          have w81 : (wo.setCell ⟨tb, 1, none⟩ (.slice A1 0 d1)).cell? ⟨tb, 1, none⟩ = some (.slice A1 0 d1) := T8.tab.cellAt 1 (by omega)
          have cr0 : (wo.setCell ⟨tb, 1, none⟩ (.slice A1 0 d1)).cell? ⟨wb.heap.size, 0, none⟩ = some (.int .i64 0) := T8.res.cellAt 0 (by omega)
          have cr1 : (wo.setCell ⟨tb, 1, none⟩ (.slice A1 0 d1)).cell? ⟨wb.heap.size, 1, none⟩ = some (.slice none 0 0) := T8.res.cellAt 1 (by omega)
          have fr0 := T8.res.frozenAt 0
          have fr1 := T8.res.frozenAt 1
          have hfin := hide T8.fin
          replace T := hide T
          replace T8 := hide T8
          replace hV := hide hV
          replace hV1 := hide hV1
          replace hb := hide hb
          clear lzR hz0
          go_wp2_with (first
            | (go_at_call 40; refine (hS.out _).mono ?_; rintro e w6 ⟨rfl, rfl⟩)
            | (go_at_call 42; refine (hC.out _).mono ?_; rintro e w7 ⟨rfl, rfl⟩))
          obtain ⟨z0, z1, hRz, hbz⟩ := hfin.out
          refine bodyPost_ret (v := .agg #[.int .i64 (lm : Int), .slice A1 0 d1]) (by simp [results, Tryz.results13, go_sem, z0, z1]) rfl ?_
          exact ret_pj (hmG.out.trans (by rw [hlm])) hrE.out (hRz.more hbx.size) (below_call hbx hbz)
        · obtain ⟨g, rfl⟩ : ∃ g, A1 = some ⟨g, 0, none⟩ := by
            rcases hV1.2 with ⟨hv, h0⟩ | ⟨g', cap, cur, hv, _⟩
            · omega
            · injection hv with q; exact ⟨g', q⟩
          have lvs : vs.length = (zss.map (prjRow ms)).length := by have := own_len hV1; omega
          have hV1' : wo.ownsRow wb.heap.size 37 1 (.slice (some ⟨g, 0, none⟩) N1 d1) N1 ((vs.zip (zss.map (prjRow ms))).map (·.1)) := by rw [zip_fst lvs]; exact hV1
          have hI0 := Inner.of_rows lzR hV
          have hS := hide (sortP g N1 d1 wb.heap.size (vs.zip (zss.map (prjRow ms))) wo hV1' hI0 hNp (by omega))
          have htab := hide T.tab
          have hre := hide T.res
          replace T := hide T
          replace hV := hide hV
          replace hV1 := hide hV1
          replace hV1' := hide hV1'
          replace hI0 := hide hI0
          replace lvs := hide lvs
          replace lzR := hide lzR
          go_wp2_with (first
            | (go_at_call 40; refine hS.out.mono ?_; rintro e w6 ⟨rfl, ps', hp, hs, ho6, hI6, hg6⟩; have htab6 := World.ownsRow.kept htab.out hg6 (own_types htab.out hV1.out (by decide)); have hre6 := World.ownsRow.kept hre.out hg6 (own_types hre.out hV1.out (by decide)); have hb6 := hb.grown hg6 hb.size (fun k hk => by cases hk; exact (hV1.out.lt g rfl).1); have ct6 : w6.cell? ⟨tb, 1, none⟩ = some (.slice (some ⟨g, 0, none⟩) N1 d1) := htab6.cellAt 1 (by omega); have hC := hide (compactF g N1 d1 wb.heap.size ps' w6 ho6 hI6 (by omega)); replace htab6 := hide htab6; replace hre6 := hide hre6; replace hp := hide hp; replace hs := hide hs; replace ho6 := hide ho6; replace hI6 := hide hI6; clear hg6)
            | (go_at_call 42; refine hC.out.mono ?_; rintro e w7 ⟨k, rfl, ho7, hg7⟩; have htab7 := World.ownsRow.kept htab6.out hg7 (own_types htab6.out ho6.out (by decide)); have hre7 := World.ownsRow.kept hre6.out hg7 (own_types hre6.out ho6.out (by decide)); have hb7 := hb6.grown hg7 hb6.size (fun k hk => by cases hk; exact (ho6.out.lt g rfl).1); have ct7 : w7.cell? ⟨tb, 1, none⟩ = some (.slice (some ⟨g, 0, none⟩) N1 d1) := htab7.cellAt 1 (by omega); have ft7 := htab7.frozenAt 1; have T8 := TabQ.swap htab7 (cut_rows lzR.out hV.out hp.out hs.out ho6.out hI6.out ho7 hg7) hre7 hb7 hgtb; have w80 : (w7.setCell ⟨tb, 1, none⟩ (.slice (some ⟨g, 0, none⟩) k d1)).cell? ⟨tb, 0, none⟩ = some (.int .i64 (lm : Int)) := T8.tab.cellAt 0 (by omega); have w81 : (w7.setCell ⟨tb, 1, none⟩ (.slice (some ⟨g, 0, none⟩) k d1)).cell? ⟨tb, 1, none⟩ = some (.slice (some ⟨g, 0, none⟩) k d1) := T8.tab.cellAt 1 (by omega); have cr0 : (w7.setCell ⟨tb, 1, none⟩ (.slice (some ⟨g, 0, none⟩) k d1)).cell? ⟨wb.heap.size, 0, none⟩ = some (.int .i64 0) := T8.res.cellAt 0 (by omega); have cr1 : (w7.setCell ⟨tb, 1, none⟩ (.slice (some ⟨g, 0, none⟩) k d1)).cell? ⟨wb.heap.size, 1, none⟩ = some (.slice none 0 0) := T8.res.cellAt 1 (by omega); have fr0 := T8.res.frozenAt 0; have fr1 := T8.res.frozenAt 1; have hfin := hide T8.fin; replace T8 := hide T8; clear htab7 hre7 ho7 hg7))
          obtain ⟨z0, z1, hRz, hbz⟩ := hfin.out
          refine bodyPost_ret (v := .agg #[.int .i64 (lm : Int), .slice (some ⟨g, 0, none⟩) k d1]) (by simp [results, Tryz.results13, go_sem, z0, z1]) rfl ?_
          exact ret_pj (hmG.out.trans (by rw [hlm])) hrG.out (hRz.more hbx.size) (below_call hbx hbz)
end Go.Proofs.YtooiobcghobefaaGreatDoor
