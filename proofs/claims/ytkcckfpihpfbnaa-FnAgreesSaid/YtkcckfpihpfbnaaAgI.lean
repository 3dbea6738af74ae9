/-
  The program's AgreeSets: the sets in which two rows agree, in ascending order, each once.
  Conditions: as each theorem says.
-/
import Derived.Test.YtkcckfpihpfbnaaAgS
import Derived.Test.YtkcckfpihpfbnaaDist
namespace Go.Proofs.Ytkcckfpihpfbnaa
open Go.RowKit
set_option linter.unusedVariables false

set_option maxHeartbeats 1600000 in
set_option maxRecDepth 100000 in
theorem implAgS_no (m : Int) (A : Option Addr) (n c : Nat) (zss : List (List Int)) (mode : Int) (w : World) (h : RowsAt w w.heap.size A n zss) (hG : agsG m zss mode = false) :
    Calls Try.prog 17 #[.agg #[.int .i64 m, .slice A n c], .int .i64 mode] w (RetRow 3 w ((agsL m zss mode).map (Value.int .i64))) := by
  have hn := rows_bound h
  have e := hide (show agsL m zss mode = [] by unfold agsL; rw [hG]; rfl)
  have hG' := hide (show (isTabB m zss && modeB mode) = false from hG)
  clear hG
  rcases hT : isTabB m zss with _ | _
  all_goals
    have hT' := hide hT
    have hM : Hid (isTabB m zss = true → modeB mode = false) := hide (fun ht => by have := hG'.out; rw [ht] at this; simpa using this)
    clear hT
    go_enter Try.func17, Try.ntmps17
    go_wp2_with fail
    obtain ⟨wb, hwb⟩ : ∃ wb, wb = w.alloc (.cells #[.int .i64 m, .slice A n c] 26) := ⟨_, rfl⟩
    have hwz : wb.heap.size = w.heap.size + 1 := by rw [hwb]; simp
    have hbx : Below w.heap.size w wb := by rw [hwb]; go_grown
    have hst := own_start wb 3
    obtain ⟨wc, hwc⟩ : ∃ wc, wc = wb.alloc (.cells #[] 3) := ⟨_, rfl⟩
    have hbc : Below wb.heap.size wb wc := by rw [hwc]; go_grown
    have h' := h.later (hbx.trans (hbc.mono hbx.size))
    have hb := hbx.trans (hbc.mono hbx.size)
    have hs1 : wb.heap.size ≤ wc.heap.size := hbc.size
    rw [← hwc, hwz] at hst
    rw [← hwb, ← hwc]
    rw [hwz] at hs1
    clear hwb hwc h hbx hbc hwz
    refine (implIsTab _ _ _ _ _ _ h').mono ?_
    rintro e' w1 ⟨rfl, hb1⟩
    rw [hT'.out]
    replace hst := own_below hst hb1
    replace hb := below_call hb hb1
    clear hb1
  · go_wp2_with fail
    go_ret
    exact ⟨_, 0, 0, rfl, by rw [e.out]; exact own_more hst (by omega), hb⟩
  · have hm' := hide (hM.out hT'.out)
    go_wp2_with (go_at_call 75; refine (ismode _ _).mono ?_; rintro e2 w2 ⟨rfl, rfl⟩; rw [hm'.out])
    go_ret
    exact ⟨_, 0, 0, rfl, by rw [e.out]; exact own_more hst (by omega), hb⟩
set_option maxHeartbeats 3200000 in
set_option maxRecDepth 100000 in
theorem implAgS_yes (m : Nat) (A : Option Addr) (n c : Nat) (zss : List (List Int)) (mode : Int) (w : World) (h : RowsAt w w.heap.size A n zss) (hT : isTabB m zss = true) (hM : modeB mode = true) (hm : m ≤ 5) (n40 : n ≤ 40) (hcap : n ≤ c) (hl : ∀ (i : Nat) (zs : List Int), zss[i]? = some zs → zs.length = m) :
    Calls Try.prog 17 #[.agg #[.int .i64 (m : Int), .slice A n c], .int .i64 mode] w (RetRow 3 w ((agsL m zss mode).map (Value.int .i64))) := by
  have hdone := hide (show agsL m zss mode = distL (agP (agV mode zss m) n 0) by unfold agsL; rw [if_pos (by unfold agsG; rw [hT, hM]; rfl), h.1]; rfl)
  replace hl := hide hl
  replace hT := hide hT
  replace hM := hide hM
  go_enter Try.func17, Try.ntmps17
  go_wp2_with fail
  obtain ⟨wb, hwb⟩ : ∃ wb, wb = w.alloc (.cells #[.int .i64 (m : Int), .slice A n c] 26) := ⟨_, rfl⟩
  have hwz : wb.heap.size = w.heap.size + 1 := by rw [hwb]; simp
  have hbx : Below w.heap.size w wb := by rw [hwb]; go_grown
  have hst := own_start wb 3
  obtain ⟨wc, hwc⟩ : ∃ wc, wc = wb.alloc (.cells #[] 3) := ⟨_, rfl⟩
  have hbc : Below wb.heap.size wb wc := by rw [hwc]; go_grown
  have h' := h.later hbx
  have k0 : wb.cell? ⟨w.heap.size, 0, none⟩ = some (.int .i64 (m : Int)) := by rw [hwb, World.cell?_alloc_at _ _ _ _ rfl]; rfl
  have k1 : wb.cell? ⟨w.heap.size, 1, none⟩ = some (.slice A n c) := by rw [hwb, World.cell?_alloc_at _ _ _ _ rfl]; rfl
  rw [← hwc] at hst
  rw [← hwb, ← hwc]
  have hst' : wc.ownsRow wb.heap.size 3 1 (.slice (some ⟨w.heap.size + 1, 0, none⟩) 0 0) 0 (([] : List Int).map (Value.int .i64)) := by rw [← hwz]; exact hst
  have hk : w.heap.size < wb.heap.size := by omega
  clear hwb hwc h hst hwz
  refine (implIsTab _ _ _ _ _ _ (h'.later hbc)).mono ?_
  rintro e' w1 ⟨rfl, hb1⟩
  rw [hT.out]
  replace hst' := own_below hst' hb1
  replace hbc := hbc.trans (hb1.mono hbc.size)
  have k0' := cell_below hbc k0 hk
  have k1' := cell_below hbc k1 hk
  clear hb1
  go_wp2_with (go_at_call 75; refine (ismode _ _).mono ?_; rintro e2 w2 ⟨rfl, rfl⟩; rw [hM.out])
  go_loopw [5, 6, 7, 9, 23] (fun out _ _ _ i wr => ∃ (k N d : Nat) (A' : Option Addr), k ≤ n ∧ i = .int .i64 (k : Int) ∧ out = .slice A' N d ∧ wr.ownsRow wb.heap.size 3 1 (.slice A' N d) N ((agP (agV mode zss m) k 0).map (Value.int .i64)) ∧ Below wb.heap.size wb wr ∧ N ≤ 40 * k) (fun _ _ _ _ i _ => n - (intOf i).toNat)
  case atStart => exact ⟨0, 0, 0, _, by omega, rfl, rfl, hst', hbc, by omega⟩
  case round =>
    clear hst' hbc k0' k1'
    obtain ⟨i, N, d, A', hi, rfl, rfl, hown, hb, hN⟩ := hrel
    have k0' := cell_below hb k0 hk
    have k1' := cell_below hb k1 hk
    by_cases hlt : i < n
    · have h2 := h'.later hb
      obtain ⟨b, o, xs, A1, c1, e1, hbb, hz1, hc1, hr1⟩ := at_row h2 hlt
      subst e1
      have gx : zss.getD i [] = xs := by rw [List.getD_eq_getElem?_getD, hz1]; rfl
      have lx := hl.out _ _ hz1
      have hr1' : Reads wb wb.heap.size A1 xs.length (xs.map (Value.int .i64)) := by
        obtain ⟨b', o', xs', A1', c1', e1', hbb', hz1', hc1', hr1'⟩ := at_row h' hlt
        cases e1'
        rw [hz1] at hz1'
        cases hz1'
        have e3 : wr.cell? ⟨b, o + i, none⟩ = wb.cell? ⟨b, o + i, none⟩ := hb.cell hbb'
        rw [e3, hc1'] at hc1
        cases hc1
        exact hr1'
      clear hr1 h2
      replace hz1 := hide hz1
      replace gx := hide gx
      replace lx := hide lx
      have hic : i ≤ c := by omega
      have hc0 : ¬ c = 0 := by omega
      go_wp2_with fail
      go_loopw [5, 9, 33] (fun out _ j wq => ∃ (q N d : Nat) (A' : Option Addr), q ≤ i ∧ j = .int .i64 (q : Int) ∧ out = .slice A' N d ∧ wq.ownsRow wb.heap.size 3 1 (.slice A' N d) N ((agP (agV mode zss m) i q).map (Value.int .i64)) ∧ Below wb.heap.size wb wq ∧ N ≤ 40 * i + q) (fun _ _ j _ => i - (intOf j).toNat)
      case atStart => exact ⟨0, N, d, A', by omega, rfl, rfl, hown, hb, by omega⟩
      case round =>
        clear hown hb hc1 hbb k0' k1' hN
        obtain ⟨q, N, d, A', hq, rfl, rfl, hown, hb, hN⟩ := hrel
        by_cases hql : q < i
        · have h2 := h'.later hb
          obtain ⟨b', o', ys, A2, c2, e2, hbb2, hz2, hc2, hr2⟩ := at_row h2 (show q < n by omega)
          cases e2
          have gy : zss.getD q [] = ys := by rw [List.getD_eq_getElem?_getD, hz2]; rfl
          have ly := hl.out _ _ hz2
          have hr3 := (hr1'.below hb).more (B' := wr.heap.size) hb.size
          have hcall : Calls Try.prog 76 #[.int .i64 mode, .slice A1 xs.length c1, .slice A2 ys.length c2] wr (RetQuiet wr (.int .i64 (agV mode zss m i q))) := by
            rw [lx.out] at hr3
            rw [ly] at hr2
            have hh := implAgree m A1 A2 c1 c2 mode xs ys wr hr3 hr2 hm
            rw [lx.out, ly]
            unfold agV
            rw [gx.out, gy]
            exact hh
          have hsucc := hide (agP_succ (agV mode zss m) i q)
          generalize agV mode zss m i q = V at hcall hsucc
          replace hcall := hide hcall
          clear gy ly hr2 hr3 hz2
          go_wp2_with fail
          refine hcall.out.mono ?_
          rintro e w2 ⟨rfl, z, hw2⟩
          replace hown : w2.ownsRow wb.heap.size 3 1 (.slice A' N d) N ((agP (agV mode zss m) i q).map (Value.int .i64)) := by rw [hw2]; exact hown
          replace hb : Below wb.heap.size wb w2 := by rw [hw2]; exact below_drewN hb z
          clear hw2
          go_wp2_with (at_builtin; refine wpList_push elemInt rfl (.tmp 37) (.tmp 42) w2 (.int .i64 V) rfl wb.heap.size (.slice A' N d) N _ rfl rfl hown rfl (by omega) hb.size ?_; intro A3 c3 w3 hown3 hg3 hat3; have hb3 := below_push hb hb.size hown hg3)
          go_roundw
          case rel => exact ⟨q + 1, N + 1, c3, A3, by omega, by go_num, rfl, by rw [hsucc.out, List.map_append]; exact hown3, hb3, by omega⟩
          case measure => simp [intOf]; omega
        · obtain rfl : q = i := by omega
          have hnx := hide (agP_next (agV mode zss m) q)
          go_wp2_with fail
          go_roundw
          case rel => exact ⟨q + 1, N, d, A', by omega, by go_num, rfl, by rw [hnx.out]; exact hown, hb, by omega⟩
          case measure => simp [intOf]; omega
    · obtain rfl : i = n := by omega
      go_wp2_with fail
      refine (implDist _ _ _ _ _ (Reads.of_own hown) (own_cap hown) (by omega)).mono ?_
      rintro e w3 ⟨A3, n3, c3, rfl, ho3, hb3⟩
      go_wp2_with fail
      go_ret
      exact ⟨A3, n3, c3, rfl, by rw [hdone.out]; exact own_more ho3 (Nat.le_trans (by omega) hb.size), hbx.trans ((hb.trans (hb3.mono hb.size)).mono hbx.size)⟩
theorem implAgS (m : Int) (A : Option Addr) (n c : Nat) (zss : List (List Int)) (mode : Int) (w : World) (h : RowsAt w w.heap.size A n zss) (hcap : n ≤ c) :
    Calls Try.prog 17 #[.agg #[.int .i64 m, .slice A n c], .int .i64 mode] w (RetRow 3 w ((agsL m zss mode).map (Value.int .i64))) := by
  rcases hG : agsG m zss mode with _ | _
  · exact implAgS_no _ _ _ _ _ _ _ h hG
  · have hG' := hG
    unfold agsG at hG'
    rw [Bool.and_eq_true] at hG'
    obtain ⟨m1, m5, m40, hlen⟩ := isTabB_m hG'.1
    obtain ⟨M, rfl⟩ : ∃ M : Nat, m = M := ⟨m.toNat, by omega⟩
    exact implAgS_yes M A n c zss mode w h hG'.1 hG'.2 (by omega) (by have := h.1; omega) hcap (fun i zs hz => by have := hlen i zs hz; omega)
end Go.Proofs.Ytkcckfpihpfbnaa
