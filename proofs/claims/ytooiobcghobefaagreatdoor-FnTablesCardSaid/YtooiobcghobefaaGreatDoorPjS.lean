/-
  Walk of the reference's ProjectTable.
  Conditions: as each theorem says.
-/
import Derived.Test.YtooiobcghobefaaGreatDoorOncS
import Derived.Test.YtooiobcghobefaaGreatDoorPrjP
import Derived.Test.YtooiobcghobefaaGreatDoorIsTab2
import Derived.Test.YtooiobcghobefaaGreatDoorPtM
import Derived.Test.YtooiobcghobefaaGreatDoorMem
namespace Go.Proofs.YtooiobcghobefaaGreatDoor
open Go.RowKit
set_option linter.unusedVariables false

theorem isTab_m {m : Int} {zss : List (List Int)} (h : isTabB m zss = true) : 1 ≤ m ∧ m ≤ 5 ∧ zss.length ≤ 40 ∧ ∀ (k : Nat) (zs : List Int), zss[k]? = some zs → (zs.length : Int) = m := by
  unfold isTabB at h
  simp at h
  obtain ⟨⟨⟨h1, h2⟩, h3⟩, h4⟩ := h
  refine ⟨h1, h2, h3, fun k zs hk => ?_⟩
  have := h4 zs (List.mem_of_getElem? hk)
  unfold isRowB at this
  simp at this
  exact this.2
theorem memL_lt {m x i : Int} (h : isAttrB m x = true) (hi : i ∈ memL x) : i < m := by
  obtain ⟨h0, h5, hx0, hx1⟩ := (isAttrB_iff m x).1 h
  by_cases hv : validB x = true
  · rw [memL_yes x hv] at hi
    unfold memK at hi
    obtain ⟨k, hk, rfl⟩ := List.mem_map.1 hi
    obtain ⟨_, hb⟩ := List.mem_filter.1 hk
    rcases Int.lt_or_le (Int.ofNat k) m with hlt | hge
    · exact hlt
    · exfalso
      have hp : (2 : Int) ^ m.toNat ≤ 2 ^ k := by
        have := Nat.pow_le_pow_right (n := 2) (by omega) (show m.toNat ≤ k by simp at hge; omega)
        exact_mod_cast this
      have hz : x / 2 ^ k = 0 := Int.ediv_eq_zero_of_lt hx0 (Int.lt_of_lt_of_le hx1 hp)
      unfold hasB at hb
      rw [hz] at hb
      revert hb
      decide
  · rw [memL_no x (by simpa using hv)] at hi; cases hi
def prjG (m : Int) (zss : List (List Int)) (s : Int) : Bool := isTabB m zss && (isAttrB m s && !(s == 0))
def prjM (m : Int) (zss : List (List Int)) (s : Int) : Int := if prjG m zss s then ((memL s).length : Int) else 0
def prjR (m : Int) (zss : List (List Int)) (s : Int) : List (List Int) := if prjG m zss s then onceL (zss.map (prjRow (memL s))) else []
theorem prjM_no {m s : Int} {zss : List (List Int)} (h : prjG m zss s = false) : prjM m zss s = 0 := if_neg (by simp [h])
theorem prjR_no {m s : Int} {zss : List (List Int)} (h : prjG m zss s = false) : prjR m zss s = [] := if_neg (by simp [h])
theorem prjM_yes {m s : Int} {zss : List (List Int)} (h : prjG m zss s = true) : prjM m zss s = ((memL s).length : Int) := if_pos h
theorem prjR_yes {m s : Int} {zss : List (List Int)} (h : prjG m zss s = true) : prjR m zss s = onceL (zss.map (prjRow (memL s))) := if_pos h
/-- A projected table: what ProjectTable hands back. -/
def RetPs (m : Int) (zss : List (List Int)) (s : Int) (w : World) (e : Ending) (w' : World) : Prop :=
  ∃ (A : Option Addr) (n c : Nat), e = .returned (.agg #[.int .i64 (prjM m zss s), .slice A n c]) ∧ RowsAt w' w'.heap.size A n (prjR m zss s) ∧ Below w.heap.size w w'
theorem ret_ps {m s : Int} {zss : List (List Int)} {w w' : World} {A : Option Addr} {n c : Nat} {M : Int} {R : List (List Int)} (hm : prjM m zss s = M) (hr : prjR m zss s = R) (ho : RowsAt w' w'.heap.size A n R) (hb : Below w.heap.size w w') :
    RetPs m zss s w (.returned (.agg #[.int .i64 M, .slice A n c])) w' := ⟨A, n, c, by rw [hm], by rw [hr]; exact ho, hb⟩
theorem own_capP {w : World} {B E n c : Nat} {A : Option Addr} {xs : List Value} (h : w.ownsRow B E 1 (.slice A n c) n xs) : n ≤ c := by
  rcases h.2 with ⟨hv, h0⟩ | ⟨g', cap, cur, hv, hb, hg, hnc, _⟩
  · omega
  · injection hv with _ _ e3; omega
theorem mapf_take_succ {zss : List (List Int)} {k : Nat} {zs : List Int} {f : List Int → List Int} (h : zss[k]? = some zs) : (zss.take (k + 1)).map f = (zss.take k).map f ++ [f zs] := by
  rw [List.take_add_one, h]; simp
set_option maxHeartbeats 6400000 in
set_option maxRecDepth 100000 in
theorem specPrj (m : Int) (A : Option Addr) (n c : Nat) (zss : List (List Int)) (s : Int) (w : World) (h : RowsAt w w.heap.size A n zss) :
    Calls Tryz.prog 15 #[.agg #[.int .i64 m, .slice A n c], .int .i64 s] w (RetPs m zss s w) := by
  have lz := h.1
  have hn := rows_bound h
  obtain ⟨wb, hwb⟩ : ∃ wb, wb = w.alloc (.cells #[.int .i64 m, .slice A n c] 26) := ⟨_, rfl⟩
  have hbx : Below w.heap.size w wb := by rw [hwb]; go_grown
  have h0 := h.later hbx
  have k0 : wb.cell? ⟨w.heap.size, 0, none⟩ = some (.int .i64 m) := by rw [hwb, World.cell?_alloc_at _ _ _ _ rfl]; rfl
  have k1 : wb.cell? ⟨w.heap.size, 1, none⟩ = some (.slice A n c) := by rw [hwb, World.cell?_alloc_at _ _ _ _ rfl]; rfl
  have hk : w.heap.size < wb.heap.size := by rw [hwb]; simp
  have hsz : wb.heap.size = w.heap.size + 1 := by rw [hwb]; simp
  obtain ⟨wa, hwa⟩ : ∃ wa, wa = wb.alloc (.cells #[.int .i64 0, .slice none 0 0] 26) := ⟨_, rfl⟩
  have hba : Below wb.heap.size wb wa := by rw [hwa]; exact (Below.refl _ _).alloc (Nat.le_refl _) _
  have hgt : wb.heap.size < wa.heap.size := by rw [hwa]; simp
  have hres : wa.ownsRow wb.heap.size 26 1 (.slice (some ⟨wb.heap.size, 0, none⟩) 2 2) 2 [.int .i64 0, .slice none 0 0] := by
    rw [hwa]; exact World.ownsRow_lit (e := 26) (size := 1) wb #[.int .i64 0, .slice none 0 0] 2 (Nat.le_refl _) (by unfold maxLen; omega) rfl
  have q0 := cell_below hba k0 hk
  have q1 := cell_below hba k1 hk
  have hI := hide (specIsTab m A n c zss wa (h0.later hba))
  replace hwa := hide hwa
  replace hwb := hide hwb
  replace hres := hide hres
  have hk1 := hide (fun (W : World) (hW : Below wb.heap.size wb W) => cell_below hW k1 hk)
  have hk0 := hide (fun (W : World) (hW : Below wb.heap.size wb W) => cell_below hW k0 hk)
  replace hsz := hide hsz
  clear h k0 k1
  go_enter Tryz.func15, Tryz.ntmps15
  go_upto_region 1 with fail
  rw [← hwb.out, ← hwa.out]
  rw [← hsz.out]
  rcases hG : prjG m zss s with _ | _
  · have hcase : isTabB m zss = false ∨ (isTabB m zss = true ∧ isAttrB m s = false) ∨ (isTabB m zss = true ∧ isAttrB m s = true ∧ s = 0) := by
      unfold prjG at hG
      rcases h1 : isTabB m zss with _ | _
      · exact .inl rfl
      · rcases h2 : isAttrB m s with _ | _
        · exact .inr (.inl ⟨rfl, rfl⟩)
        · rw [h1, h2] at hG; exact .inr (.inr ⟨rfl, rfl, by simpa using hG⟩)
    have hm0 := hide (prjM_no hG)
    have hr0 := hide (prjR_no hG)
    clear hG
    rcases hcase with hT | ⟨hT, hA⟩ | ⟨hT, hA, hs0⟩
    · replace hT := hide hT
      go_wp2_with (go_at_call 9; refine hI.out.mono ?_; rintro e w1 ⟨rfl, hb1⟩; rw [hT.out]; have hres1 := own_below hres.out hb1; have hbw1 := hba.trans (hb1.mono hba.size); have cr0 : w1.cell? ⟨wb.heap.size, 0, none⟩ = some (.int .i64 0) := hres1.cellAt 0 (by omega); have cr1 : w1.cell? ⟨wb.heap.size, 1, none⟩ = some (.slice none 0 0) := hres1.cellAt 1 (by omega); have fr0 := hres1.frozenAt 0; have fr1 := hres1.frozenAt 1; have hfin := hide (res_fin hres1 hbw1))
      obtain ⟨z0, z1, hRz, hbz⟩ := hfin.out
      refine bodyPost_ret (v := .agg #[.int .i64 0, .slice none 0 0]) (by simp [results, Tryz.results15, go_sem, z0, z1]) rfl ?_
      exact ret_ps hm0.out hr0.out hRz.rows (below_call hbx hbz)
    · replace hT := hide hT
      have hAt := hide (fun X => specAttr m s X)
      replace hA := hide hA
      go_wp2_with (first
        | (go_at_call 9; refine hI.out.mono ?_; rintro e w1 ⟨rfl, hb1⟩; rw [hT.out]; have hres1 := own_below hres.out hb1; have hbw1 := hba.trans (hb1.mono hba.size); have cr0 : w1.cell? ⟨wb.heap.size, 0, none⟩ = some (.int .i64 0) := hres1.cellAt 0 (by omega); have cr1 : w1.cell? ⟨wb.heap.size, 1, none⟩ = some (.slice none 0 0) := hres1.cellAt 1 (by omega); have fr0 := hres1.frozenAt 0; have fr1 := hres1.frozenAt 1; have hfin := hide (res_fin hres1 hbw1); have p0 := hk0.out w1 hbw1)
        | (go_at_call 44; refine (hAt.out _).mono ?_; rintro e w2 ⟨rfl, rfl⟩; rw [hA.out]))
      obtain ⟨z0, z1, hRz, hbz⟩ := hfin.out
      refine bodyPost_ret (v := .agg #[.int .i64 0, .slice none 0 0]) (by simp [results, Tryz.results15, go_sem, z0, z1]) rfl ?_
      exact ret_ps hm0.out hr0.out hRz.rows (below_call hbx hbz)
    · replace hT := hide hT
      have hAt := hide (fun X => specAttr m s X)
      replace hA := hide hA
      have e0 : ((s : Int) == 0) = true := by rw [hs0]; rfl
      replace hs0 := hide hs0
      go_wp2_with (first
        | (go_at_call 9; refine hI.out.mono ?_; rintro e w1 ⟨rfl, hb1⟩; rw [hT.out]; have hres1 := own_below hres.out hb1; have hbw1 := hba.trans (hb1.mono hba.size); have cr0 : w1.cell? ⟨wb.heap.size, 0, none⟩ = some (.int .i64 0) := hres1.cellAt 0 (by omega); have cr1 : w1.cell? ⟨wb.heap.size, 1, none⟩ = some (.slice none 0 0) := hres1.cellAt 1 (by omega); have fr0 := hres1.frozenAt 0; have fr1 := hres1.frozenAt 1; have hfin := hide (res_fin hres1 hbw1); have p0 := hk0.out w1 hbw1)
        | (go_at_call 44; refine (hAt.out _).mono ?_; rintro e w2 ⟨rfl, rfl⟩; rw [hA.out]))
      obtain ⟨z0, z1, hRz, hbz⟩ := hfin.out
      refine bodyPost_ret (v := .agg #[.int .i64 0, .slice none 0 0]) (by simp [results, Tryz.results15, go_sem, z0, z1]) rfl ?_
      exact ret_ps hm0.out hr0.out hRz.rows (below_call hbx hbz)
  · have hG2 := hG
    unfold prjG at hG2
    simp only [Bool.and_eq_true, Bool.not_eq_true', beq_eq_false_iff_ne, ne_eq] at hG2
    obtain ⟨hT, hA, hs0⟩ := hG2
    have hmG := hide (prjM_yes hG)
    have hrG := hide (prjR_yes hG)
    obtain ⟨m1, m5, m40, hlen⟩ := isTab_m hT
    obtain ⟨ms, hms⟩ : ∃ ms, ms = memL s := ⟨_, rfl⟩
    have hmem := hide (fun (i : Int) (hi : i ∈ ms) => (show 0 ≤ i ∧ i < m from ⟨(memL_mem s i (hms ▸ hi)).1, memL_lt hA (hms ▸ hi)⟩))
    have hml : ms.length ≤ 5 := by rw [hms]; exact memL_len s
    have hMm := hide (fun X => specMem s X)
    rw [← hms] at hMm hmG hrG
    have hAt := hide (fun X => specAttr m s X)
    have e0 : ((s : Int) == 0) = false := by simpa using hs0
    replace hs0 := hide hs0
    replace hT := hide hT
    replace hA := hide hA
    replace hlen := hide hlen
    replace hms := hide hms
    clear hG
    go_wp2_with (first
      | (go_at_call 9; refine hI.out.mono ?_; rintro e w1 ⟨rfl, hb1⟩; rw [hT.out]; have hres1 := own_below hres.out hb1; have hbw1 := hba.trans (hb1.mono hba.size); have p0 := hk0.out w1 hbw1)
      | (go_at_call 44; refine (hAt.out _).mono ?_; rintro e w2 ⟨rfl, rfl⟩; rw [hA.out])
      | (go_at_call 45; refine (hMm.out _).mono ?_; rintro e w3 ⟨Am, lm, cm, rfl, hoM, hb3⟩; have hres3 := own_below hres1 hb3; have hbw3 := hbw1.trans (hb3.mono hbw1.size); replace hoM := own_more hoM hbw1.size))
    have hlm : ms.length = lm := by have := own_len hoM; simpa using this
    have hR0 := (RowsU.start w3 (w3.alloc (.cells #[] 37)).heap.size).more (show wb.heap.size ≤ w3.heap.size from hbw3.size)
    have hal : Below w3.heap.size w3 (w3.alloc (.cells #[] 37)) := (Below.refl _ _).alloc (Nat.le_refl _) _
    have hres4 := own_below hres3 hal
    have hoM4 := own_below hoM hal
    have hb4 := hbw3.trans (hal.mono hbw3.size)
    clear hbw3 hal hres3 hoM hbw1 hres1 q0 q1 p0 hb1 hb3
    go_loopw [6, 7, 8, 9] (fun l i _ _ wr => ∃ (k N d : Nat) (A' : Option Addr), i = .int .i64 (k : Int) ∧ k ≤ n ∧ l = .slice A' N d ∧ RowsU wr wb.heap.size wr.heap.size A' N d ((zss.take k).map (prjRow ms)) ∧ wr.ownsRow wb.heap.size 3 1 (.slice Am lm cm) lm (ms.map (Value.int .i64)) ∧ wr.ownsRow wb.heap.size 26 1 (.slice (some ⟨wb.heap.size, 0, none⟩) 2 2) 2 [.int .i64 0, .slice none 0 0] ∧ Below wb.heap.size wb wr) (fun _ i _ _ _ => n - (intOf i).toNat)
    case atStart => exact ⟨0, 0, 0, _, rfl, by omega, rfl, hR0, hoM4, hres4, hb4⟩
    case round =>
      clear hR0 hoM4 hres4 hb4
      obtain ⟨i, N1, d1, A1, rfl, hi, rfl, hR, hoM, hre, hb⟩ := hrel
      obtain ⟨wo, hwo0⟩ : ∃ wo : World, wo = wr := ⟨_, rfl⟩
      subst hwo0
      have hN1 : N1 ≤ 40 := by have := hR.1; rw [List.length_map, List.length_take] at this; omega
      have p1 := hk1.out wo hb
      by_cases hlt : i < n
      · obtain ⟨b, o, zs, Ax, cx, rfl, hbb, hzs, hcx0, hrx0⟩ := at_row h0 hlt
        have hzl := hlen.out i zs hzs
        have hstep := hide (mapf_take_succ (f := prjRow ms) hzs)
        have hrx := (hrx0.below hb).more hb.size
        have hcx := (hb.cell (p := ⟨b, o + i, none⟩) hbb).trans hcx0
        have hbo : b < wo.heap.size := Nat.lt_of_lt_of_le hbb hb.size
        have hgb : w.heap.size < wo.heap.size := Nat.lt_of_lt_of_le hk hb.size
        have hst := own_start wo 3
        have hal : Below wo.heap.size wo (wo.alloc (.cells #[] 3)) := (Below.refl _ _).alloc (Nat.le_refl _) _
        have hrM := Reads.of_own hoM
        replace hR := hide hR
        replace hoM := hide hoM
        replace hre := hide hre
        replace hzs := hide hzs
        clear hcx0 hrx0
        go_wp2_with fail
        go_loopw [8, 9] (fun l j wq => ∃ (k N d : Nat) (A' : Option Addr), j = .int .i64 (k : Int) ∧ k ≤ lm ∧ l = .slice A' N d ∧ wq.ownsRow wo.heap.size 3 1 (.slice A' N d) N ((prjRow (ms.take k) zs).map (Value.int .i64)) ∧ Below wo.heap.size wo wq) (fun _ j _ => lm - (intOf j).toNat)
        case atStart => exact ⟨0, 0, 0, _, rfl, by omega, rfl, hst, hal⟩
        case round =>
          clear hst hal
          obtain ⟨k, N3, c3, A3, rfl, hk3, rfl, hrow, hbq⟩ := hrel
          have hN3 : N3 ≤ 5 := by have := own_len hrow; rw [List.length_map, prjRow_len, List.length_take] at this; omega
          by_cases hkl : k < lm
          · obtain ⟨bm, om, cI, rfl, hbm, hck, hcm0⟩ := at_int hrM hkl
            obtain ⟨c0, c1⟩ := hmem.out cI (List.mem_of_getElem? hck)
            obtain ⟨j, rfl⟩ : ∃ j : Nat, cI = (j : Int) := ⟨cI.toNat, by omega⟩
            obtain ⟨bx, ox, v, rfl, hbx', hv, hcv0⟩ := at_int (k := j) hrx (by omega)
            have hst3 := hide (show (prjRow (ms.take k) zs).map (Value.int .i64) ++ [.int .i64 v] = (prjRow (ms.take (k + 1)) zs).map (Value.int .i64) by
              rw [prjRow_step hck, Int.toNat_natCast, List.getD_eq_getElem?_getD, hv]; simp)
            have f1 : wr.cell? ⟨w.heap.size, 1, none⟩ = some (.slice (some ⟨b, o, none⟩) n c) := cell_below hbq p1 hgb
            have f2 : wr.cell? ⟨b, o + i, none⟩ = some (.slice (some ⟨bx, ox, none⟩) zs.length cx) := cell_below hbq hcx hbo
            have f3 : wr.cell? ⟨bm, om + k, none⟩ = some (.int .i64 (j : Int)) := cell_below hbq hcm0 hbm
            have f4 : wr.cell? ⟨bx, ox + j, none⟩ = some (.int .i64 v) := cell_below hbq hcv0 hbx'
            have i1 : (i : Int) < (n : Int) := by omega
            have i2 : (k : Int) < (lm : Int) := by omega
            have i3 : (j : Int) < (zs.length : Int) := by omega
            have hsq := hbq.size
            generalize zs.length = lx at *
            replace hck := hide hck
            replace hv := hide hv
            clear hcx hcm0 hcv0 p1 hrx hrM
            go_wp2_with fail
            go_region_law (first
              | (refine step_pushes elemInt rfl (.tmp 42) (.tmp 54) _ [.int .i64 v] 1 rfl (by decide) rfl wo.heap.size (.slice A3 N3 c3) N3 _ rfl wr.heap.size 1 rfl (by exact (hrow.alloc _).drew) (cells_new2 _ _ _) (oneCells rfl) (by omega) (by simp; omega) ?_; intro A6 c6 w6 hown6 hg6 hat6))
            all_goals
              have hbd : Below wo.heap.size wo (wr.alloc (.cells #[.int .i64 v] 3)).drew := (hbq.alloc hbq.size _).drew
              have hob := (hrow.alloc (.cells #[.int .i64 v] 3)).drew
              have hbn := below_push hbd (by simp; omega) hob hg6
              rw [hst3.out] at hown6
              clear hat6 hbd hob
              go_wp2_with fail
              go_roundw
              case rel => exact ⟨k + 1, N3 + 1, c6, A6, by go_num, by omega, rfl, hown6, hbn⟩
              case measure => simp [intOf]; omega
          · obtain rfl : k = lm := by omega
            have hrow1 : wr.ownsRow wo.heap.size 3 1 (.slice A3 N3 c3) N3 ((prjRow ms zs).map (Value.int .i64)) := by
              rwa [List.take_of_length_le (by omega)] at hrow
            obtain ⟨lz2, vs, hV⟩ := hR.out.below hbq
            have hV1 := hV.1
            have hoM2 := own_below hoM.out hbq
            have hre2 := own_below hre.out hbq
            have hbq2 := hb.trans (hbq.mono hb.size)
            have hss := Nat.le_trans hb.size hbq.size
            have hrow2 := hide (own_more hrow1 hb.size)
            have hbl := hide (fun q (hq : (Value.slice A3 N3 c3).ownBlock = some q) => (hrow1.lt q hq).1)
            replace hV := hide hV
            replace lz2 := hide lz2
            replace hoM2 := hide hoM2
            replace hre2 := hide hre2
            clear hrow hrow1 hrM p1 hrx hcx
            go_wp2_with (at_builtin; refine wpList_push elemS rfl (.tmp 56) (.tmp 58) wr (.slice A3 N3 c3) rfl wb.heap.size (.slice A1 N1 d1) N1 _ rfl rfl hV1 rfl (by omega) hss ?_; intro A5 c5 w5 hown5 hg5 hat5; have hR5 := hide (RowsU.push lz2.out hV.out hrow2.out hbl.out hown5 hg5); have hoM5 := hide (World.ownsRow.kept hoM2.out hg5 (own_types hoM2.out hV1 (by decide))); have hre5 := hide (World.ownsRow.kept hre2.out hg5 (own_types hre2.out hV1 (by decide))); have hb5 := below_push hbq2 hss hV1 hg5; clear hown5 hg5 hat5)
            go_roundw
            case rel => exact ⟨i + 1, N1 + 1, c5, A5, by go_num, by omega, rfl, by rw [hstep.out]; exact hR5.out, hoM5.out, hre5.out, hb5⟩
            case measure => simp [intOf]; omega
      · obtain rfl : i = n := by omega
        rw [List.take_of_length_le (by omega)] at hR
        have hcapd := own_capP hR.2.choose_spec.1
        have hwo : wb.heap.size < wo.heap.size := (hre.lt wb.heap.size rfl).2
        have hOn := hide (l3once wb.heap.size N1 A1 N1 d1 (zss.map (prjRow ms)) wo (Nat.le_refl _) hwo (RowsW.of_u hR) hcapd (by omega) (fun zs hz => by
          obtain ⟨y, _, rfl⟩ := List.mem_map.1 hz
          rw [prjRow_len]; omega))
        replace hR := hide hR
        replace hoM := hide hoM
        replace hre := hide hre
        go_wp2_with (go_at_call 46; refine hOn.out.mono ?_; rintro e w6 ⟨AZ, nZ, cZ, rfl, hZ, hb6, hoZ, hiZ⟩; have hre6 := own_below hre.out hb6; have hb7 := hb.trans (hb6.mono hb.size); have cr0 : w6.cell? ⟨wb.heap.size, 0, none⟩ = some (.int .i64 0) := hre6.cellAt 0 (by omega); have cr1 : w6.cell? ⟨wb.heap.size, 1, none⟩ = some (.slice none 0 0) := hre6.cellAt 1 (by omega); have fr0 := hre6.frozenAt 0; have fr1 := hre6.frozenAt 1; replace hre6 := hide hre6; replace hZ := hide hZ; replace hiZ := hide hiZ)
        have g1 := grown_setCell w6 wb.heap.size 0 (.int .i64 (lm : Int))
        have g2 := grown_setCell (w6.setCell ⟨wb.heap.size, 0, none⟩ (.int .i64 (lm : Int))) wb.heap.size 1 (.slice AZ nZ cZ)
        have pp1 := (hre6.out.stored 0 (.int .i64 (lm : Int))).1
        have pp2 := (pp1.stored 1 (.slice AZ nZ cZ)).1
        have bb1 := hb7.grown g1 hb7.size (fun k hk => by cases hk; exact Nat.le_refl _)
        have bb2 := bb1.grown g2 bb1.size (fun k hk => by cases hk; exact Nat.le_refl _)
        have z0 : ((w6.setCell ⟨wb.heap.size, 0, none⟩ (.int .i64 (lm : Int))).setCell ⟨wb.heap.size, 1, none⟩ (.slice AZ nZ cZ)).cell? ⟨wb.heap.size, 0, none⟩ = some (.int .i64 (lm : Int)) := pp2.cellAt 0 (by omega)
        have z1 : ((w6.setCell ⟨wb.heap.size, 0, none⟩ (.int .i64 (lm : Int))).setCell ⟨wb.heap.size, 1, none⟩ (.slice AZ nZ cZ)).cell? ⟨wb.heap.size, 1, none⟩ = some (.slice AZ nZ cZ) := pp2.cellAt 1 (by omega)
        refine bodyPost_ret (v := .agg #[.int .i64 (lm : Int), .slice AZ nZ cZ]) (by simp [results, Tryz.results15, go_sem, z0, z1]) rfl ?_
        exact ret_ps (hmG.out.trans (by rw [hlm])) hrG.out (RowsAt.setAv _ (RowsAt.setAv _ hZ.out hiZ.out hoZ) (hiZ.out.set _ hoZ) hoZ) (below_call hbx bb2)
end Go.Proofs.YtooiobcghobefaaGreatDoor
