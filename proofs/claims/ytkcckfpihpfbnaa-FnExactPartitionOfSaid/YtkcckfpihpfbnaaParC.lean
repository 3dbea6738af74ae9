/-
  PartitionOf of the reference.
  Conditions: as each theorem says.
-/
import Derived.Test.YtkcckfpihpfbnaaParI
import Derived.Test.YtkcckfpihpfbnaaRowsP
import Derived.Test.YtkcckfpihpfbnaaDep
namespace Go.Proofs.Ytkcckfpihpfbnaa
open Go.RowKit
set_option linter.unusedVariables false

theorem flat_len (S : Nat → Nat → Bool) (n i : Nat) : (clsL S n i).flatten.length ≤ i * (n + 1) := by
  induction i with
  | zero => simp [clsL]
  | succ i ih =>
    unfold clsL at ih ⊢
    rw [List.range_succ, List.flatMap_append, List.flatten_append, List.length_append, Nat.succ_mul]
    have h1 := clsTo_len S i n
    have : ([i].flatMap fun a => if !tkB S a a && decide (1 < (clsTo S a n).length) then [clsTo S a n] else []).flatten.length ≤ n + 1 := by
      simp only [List.flatMap_cons, List.flatMap_nil, List.append_nil]
      split <;> simp
      exact h1
    omega
theorem lens_clsL (S : Nat → Nat → Bool) (n i : Nat) : lens (clsL S n i) ≤ i * (n + 1) := by
  have := flat_len S n i
  rw [List.length_flatten] at this
  exact this
theorem parL_len (m : Int) (zss : List (List Int)) (mode s : Int) : lens (parL m zss mode s) ≤ 2000 := by
  unfold parL
  split
  · rename_i hG
    unfold parG at hG
    rw [Bool.and_eq_true, Bool.and_eq_true] at hG
    have h40 := (isTabB_m hG.1.1).2.2.1
    have h1 := lens_clsL (parS mode zss m.toNat s.toNat) zss.length zss.length
    have h2 : zss.length * (zss.length + 1) ≤ 40 * 41 := Nat.mul_le_mul h40 (by omega)
    omega
  · simp [lens]
set_option maxHeartbeats 3200000 in
set_option maxRecDepth 100000 in
theorem l5classes (M : Nat) (A : Option Addr) (n c : Nat) (zss : List (List Int)) (mode : Int) (s : Nat) (w : World) (h : RowsAt w w.heap.size A n zss) (hM : M ≤ 5) (hs : s < 32) (n40 : n ≤ 40) (hl : ∀ (i : Nat) (zs : List Int), zss[i]? = some zs → zs.length = M) :
    Calls Try.prog 102 #[.agg #[.int .i64 (M : Int), .slice A n c], .int .i64 mode, .int .i64 (s : Int)] w (RetRows w (clsL (parS mode zss M s) n n)) := by
  have hP := hide (parS_per mode zss M s n hM hs)
  replace hl := hide hl
  obtain ⟨S, hS⟩ : ∃ S, S = parS mode zss M s := ⟨_, rfl⟩
  rw [← hS] at hP ⊢
  replace hS := hide hS
  go_enter Try.func102, Try.ntmps102
  go_wp2_with fail
  obtain ⟨wb, hwb⟩ : ∃ wb, wb = w.alloc (.cells #[.int .i64 (M : Int), .slice A n c] 26) := ⟨_, rfl⟩
  have hwz : wb.heap.size = w.heap.size + 1 := by rw [hwb]; simp
  have hbx : Below w.heap.size w wb := by rw [hwb]; go_grown
  have h' := h.later hbx
  have k0 : wb.cell? ⟨w.heap.size, 0, none⟩ = some (.int .i64 (M : Int)) := by rw [hwb, World.cell?_alloc_at _ _ _ _ rfl]; rfl
  have k1 : wb.cell? ⟨w.heap.size, 1, none⟩ = some (.slice A n c) := by rw [hwb, World.cell?_alloc_at _ _ _ _ rfl]; rfl
  obtain ⟨wc, hwc⟩ : ∃ wc, wc = wb.alloc (.cells #[] 29) := ⟨_, rfl⟩
  have hwcz : wc.heap.size = w.heap.size + 2 := by rw [hwc]; simp; omega
  obtain ⟨wd, hwd⟩ : ∃ wd, wd = wc.alloc (.cells #[] 3) := ⟨_, rfl⟩
  have hbd : Below wb.heap.size wb wd := by rw [hwd, hwc]; go_grown
  have hR0 : RowsP wd wb.heap.size (fun k => k < wd.heap.size ∧ (Value.slice (some ⟨w.heap.size + 2, 0, none⟩) 0 0).ownBlock ≠ some k) (some ⟨w.heap.size + 1, 0, none⟩) 0 0 [] := by
    have := RowsP.start wb (fun k => k < wd.heap.size ∧ (Value.slice (some ⟨w.heap.size + 2, 0, none⟩) 0 0).ownBlock ≠ some k)
    rw [← hwc, show (some ⟨wb.heap.size, 0, none⟩ : Option Addr) = some ⟨w.heap.size + 1, 0, none⟩ by rw [hwz]] at this
    exact this.below (by rw [hwd]; go_grown)
  have hD0 : wd.ownsRow wb.heap.size 3 1 (.slice (some ⟨w.heap.size + 2, 0, none⟩) 0 0) 0 (([] : List Int).map (Value.int .i64)) := by
    have := own_start wc 3
    rw [← hwd, show (some ⟨wc.heap.size, 0, none⟩ : Option Addr) = some ⟨w.heap.size + 2, 0, none⟩ by rw [hwcz]] at this
    exact own_more this (by omega)
  rw [← hwb, ← hwc, ← hwd]
  have hk : w.heap.size < wb.heap.size := by omega
  clear hwb hwc hwd h hwz hwcz
  replace hR0 := hide hR0
  go_loopw [7, 8, 9, 10, 11] (fun out dn i _ _ wr => ∃ (k N d N2 d2 : Nat) (A' A2 : Option Addr), k ≤ n ∧ i = .int .i64 (k : Int) ∧ out = .slice A' N d ∧ dn = .slice A2 N2 d2 ∧ RowsP wr wb.heap.size (fun k => k < wr.heap.size ∧ (Value.slice A2 N2 d2).ownBlock ≠ some k) A' N d (clsL S n k) ∧ wr.ownsRow wb.heap.size 3 1 (.slice A2 N2 d2) N2 ((clsL S n k).flatten.map (Value.int .i64)) ∧ Below wb.heap.size wb wr) (fun _ _ i _ _ _ => n - (intOf i).toNat)
  case atStart => exact ⟨0, 0, 0, 0, 0, _, _, by omega, rfl, rfl, rfl, hR0.out, hD0, hbd⟩
  case round =>
    clear hR0 hD0 hbd
    obtain ⟨k, N, d, N2, d2, A', A2, hkn, rfl, rfl, rfl, hR, hD, hb⟩ := hrel
    have k0' := cell_below hb k0 hk
    have k1' := cell_below hb k1 hk
    have hN : N ≤ 40 := by have h1 := hR.1; have h2 := clsL_len S n k; omega
    have hN2 : N2 ≤ 2000 := by
      have h1 := own_len hD
      have h2 := flat_len S n k
      have h3 : k * (n + 1) ≤ 40 * 41 := Nat.mul_le_mul (by omega) (by omega)
      rw [List.length_map] at h1
      omega
    by_cases hlt : k < n
    · have hdn := done_iff hP.out hlt
      have rD := Reads.of_own hD
      replace hR := hide hR
      rcases ht : tkB S k k with _ | _
      · rw [ht] at hdn
        have ht' := hide ht
        replace hdn := hide hdn
        clear ht
        replace hD := hide hD
        go_wp2_with fail
        refine (l2has _ _ _ _ (k : Int) _ rD).mono ?_
        rintro e w1 ⟨rfl, rfl⟩
        rw [hdn.out]
        obtain ⟨Hs, hHs⟩ : ∃ Hs, Hs = wr.heap.size := ⟨_, rfl⟩
        have hwH : wb.heap.size ≤ Hs := by rw [hHs]; exact hb.size
        have hc0 : (wr.alloc (.cells #[.int .i64 (k : Int)] 3)).ownsRow Hs 3 1 (.slice (some ⟨wr.heap.size, 0, none⟩) 1 1) 1 ((clsTo S k (k + 1)).map (Value.int .i64)) := by
          rw [clsTo_start, hHs]
          exact World.ownsRow_lit (e := 3) (size := 1) wr #[.int .i64 (k : Int)] 1 (Nat.le_refl _) (by unfold maxLen; omega) rfl
        obtain ⟨P, hPP⟩ : ∃ P : Nat → Prop, P = fun k => k < Hs ∧ (Value.slice A2 N2 d2).ownBlock ≠ some k := ⟨_, rfl⟩
        have hR0 : RowsP (wr.alloc (.cells #[.int .i64 (k : Int)] 3)) wb.heap.size P A' N d (clsL S n k) := by rw [hPP, hHs]; exact hR.out.below ((Below.refl _ _).alloc (Nat.le_refl _) _)
        have hD0 : (wr.alloc (.cells #[.int .i64 (k : Int)] 3)).ownsRow wb.heap.size 3 1 (.slice A2 N2 d2) N2 ((clsL S n k).flatten.map (Value.int .i64)) := own_below hD.out ((Below.refl _ _).alloc (Nat.le_refl _) _)
        have hDH : ∀ g, (Value.slice A2 N2 d2).ownBlock = some g → g < Hs := fun g hg => by rw [hHs]; exact (hD.out.lt g hg).2
        have hbA : Below wb.heap.size wb (wr.alloc (.cells #[.int .i64 (k : Int)] 3)) := hb.alloc hb.size _
        replace hc0 := hide hc0
        replace hR0 := hide hR0
        replace hD0 := hide hD0
        replace hHs := hide hHs
        replace hDH := hide hDH
        replace hPP := hide hPP
        clear rD
        go_wp2_with fail
        go_loopw [10, 11] (fun cl j wq => ∃ (q N3 d3 : Nat) (A3 : Option Addr), k < q ∧ q ≤ n ∧ j = .int .i64 (q : Int) ∧ cl = .slice A3 N3 d3 ∧ wq.ownsRow Hs 3 1 (.slice A3 N3 d3) N3 ((clsTo S k q).map (Value.int .i64)) ∧ RowsP wq wb.heap.size P A' N d (clsL S n k) ∧ wq.ownsRow wb.heap.size 3 1 (.slice A2 N2 d2) N2 ((clsL S n k).flatten.map (Value.int .i64)) ∧ Below wb.heap.size wb wq ∧ Hs ≤ wq.heap.size) (fun _ j _ => n - (intOf j).toNat)
        case atStart => exact ⟨k + 1, 1, 1, _, by omega, by omega, by go_num, rfl, hc0.out, hR0.out, hD0.out, hbA, by rw [hHs.out]; simp⟩
        case round =>
          clear hc0 hR0 hD0 hbA hb hR hD hHs k0' k1'
          obtain ⟨q, N3, d3, A3, hkq, hqn, rfl, rfl, hc, hR, hD, hb, hHz⟩ := hrel
          have k0' := cell_below hb k0 hk
          have k1' := cell_below hb k1 hk
          have hN3 : N3 ≤ 41 := by have h1 := own_len hc; rw [List.length_map] at h1; have := clsTo_len S k q; omega
          by_cases hql : q < n
          · have h2 := h'.later hb
            obtain ⟨b, o, xs, A1, c1, e1, hbb, hz1, hc1, hr1⟩ := at_row h2 hlt
            obtain ⟨b', o', ys, A9, c9, e2, hbb2, hz2, hc2, hr2⟩ := at_row h2 hql
            have gx : zss.getD k [] = xs := by rw [List.getD_eq_getElem?_getD, hz1]; rfl
            have gy : zss.getD q [] = ys := by rw [List.getD_eq_getElem?_getD, hz2]; rfl
            have hcall := hide (l4agree M A n c zss mode k q xs ys wr h2 hM hz1 hz2 (hl.out _ _ hz1) (hl.out _ _ hz2))
            have hlt32 : agrN mode xs ys M < 32 := Nat.lt_of_lt_of_le (agrN_lt mode xs ys M) (Nat.pow_le_pow_right (by omega) hM)
            have hV : S k q = insB (s : Int) ((agrN mode xs ys M : Nat) : Int) := by rw [hS.out]; unfold parS agV; rw [gx, gy]
            obtain ⟨v, hv⟩ : ∃ v, agrN mode xs ys M = v := ⟨_, rfl⟩
            rw [hv] at hcall hV hlt32
            have t1 := and_ins v s hlt32 hs
            rw [← hV] at t1
            clear hv gx gy hr1 hr2 hc1 hc2 hz1 hz2 e1 e2 hV
            rcases hSq : S k q with _ | _
            · rw [hSq] at t1
              have g1 := hide (clsTo_no hSq)
              clear hSq
              replace hc := hide hc
              replace hR := hide hR
              replace hD := hide hD
              go_wp2_with fail
              refine hcall.out.mono ?_
              rintro e w2 ⟨rfl, hb2⟩
              go_wp2_with fail
              go_roundw
              case rel => exact ⟨q + 1, N3, d3, A3, by omega, by omega, by go_num, rfl, by rw [g1.out]; exact own_below hc.out hb2, hR.out.below hb2, own_below hD.out hb2, hb.trans (hb2.mono hb.size), Nat.le_trans hHz hb2.size⟩
              case measure => simp [intOf]; omega
            · rw [hSq] at t1
              have g1 := hide (clsTo_yes hSq hkq)
              clear hSq
              replace hR := hide hR
              replace hD := hide hD
              replace hc := hide hc
              go_wp2_with fail
              refine hcall.out.mono ?_
              rintro e w2 ⟨rfl, hb2⟩
              have hcS := own_below hc.out hb2
              have hRS := hR.out.below hb2
              have hDS := own_below hD.out hb2
              have hbS := hb.trans (hb2.mono hb.size)
              have hHS := Nat.le_trans hHz hb2.size
              replace hRS := hide hRS
              replace hDS := hide hDS
              clear hb2
              go_wp2_with (at_builtin; refine wpList_push elemInt rfl (.tmp 44) (.tmp 46) w2 (.int .i64 (q : Int)) rfl Hs (.slice A3 N3 d3) N3 _ rfl rfl hcS rfl (by omega) hHS ?_; intro A4 c4 w4 hown4 hg4 hat4)
              have hb5 := below_push hbS hbS.size (own_more hcS hwH) hg4
              have hR5 := hRS.out.other hcS (by decide) (.inr (fun g hg hPg => by rw [hPP.out] at hPg; have := (hcS.lt g hg).1; have := hPg.1; omega)) hg4
              have hD5 := World.ownsRow.kept hDS.out hg4 (by
                rcases hq0 : (Value.slice A2 N2 d2).ownBlock with _ | g
                · exact .inl rfl
                · refine .inr fun he => ?_
                  have h1 := hDH.out g hq0
                  have h2 := (hcS.lt g he.symm).1
                  omega)
              have hH5 : Hs ≤ w4.heap.size := Nat.le_trans hHS (by have := hg4.size; simpa using this)
              clear hat4
              replace hR5 := hide hR5
              replace hD5 := hide hD5
              go_roundw
              case rel => exact ⟨q + 1, N3 + 1, c4, A4, by omega, by omega, by go_num, rfl, by rw [g1.out, List.map_append]; exact hown4, hR5.out, hD5.out, hb5, hH5⟩
              case measure => simp [intOf]; omega
          · obtain rfl : q = n := by omega
            have lc : (clsTo S k q).length = N3 := by have := own_len hc; simpa using this
            have hclt : ∀ g, (Value.slice A3 N3 d3).ownBlock = some g → Hs ≤ g := fun g hg => (hc.lt g hg).1
            by_cases h1 : 1 < N3
            · have d1 : decide ((1 : Int) < (N3 : Int)) = true := by simp; omega
              have d1' : decide (1 < N3) = true := by simp; omega
              have hstep := hide (clsL_yes (n := q) ht'.out (by rw [lc]; exact h1))
              obtain ⟨lz, vs, hV⟩ := hR
              have hV1 := hV.1
              replace hV := hide hV
              replace hc := hide hc
              replace lc := hide lc
              replace lz := hide lz
              replace hclt := hide hclt
              replace hD := hide hD
              go_wp2_with (first
                | (at_builtin; refine wpList_push elemS rfl (.tmp 51) (.tmp 53) wr (.slice A3 N3 d3) rfl wb.heap.size (.slice A' N d) N _ rfl rfl hV1 rfl (by omega) hb.size ?_; intro A4 c4 w4 hown4 hg4 hat4; have hR5 := hide (RowsP.push lz.out hV.out (own_more hc.out hwH) (fun g hg hPg => by rw [hPP.out] at hPg; have := hclt.out g hg; have := hPg.1; omega) hown4 hg4); have hD5 := World.ownsRow.kept hD.out hg4 (own_types hD.out hV1 (by decide)); have hc5 := World.ownsRow.kept hc.out hg4 (own_types hc.out hV1 (by decide)); have hb5 := below_push hb hb.size hV1 hg4; have hrc := (Reads.of_own hc5); have hoc := hide (show ∀ u ∈ (clsTo S k q).map (Value.int .i64), u.oneCell' = true from fun u hu => by obtain ⟨x, _, rfl⟩ := List.mem_map.1 hu; rfl))
                | (at_builtin; refine wpList_spread1 elemInt rfl (.tmp 55) (.tmp 56) w4 A3 N3 d3 _ hrc (by omega) rfl wb.heap.size (.slice A2 N2 d2) N2 _ rfl rfl hD5 hoc.out (by omega) hb5.size ?_; intro A6 c6 w6 hown6 hg6 hat6))
              have hRq := hR5.out.other hD5 (by decide) (.inr (fun g hg hPg => by
                rcases hPg with hPg | hPg
                · rw [hPP.out] at hPg; exact hPg.2 hg
                · have h3 := hDH.out g hg
                  have h4 := hclt.out g hPg
                  omega)) hg6
              have hRn : RowsP w6 wb.heap.size (fun g => g < w6.heap.size ∧ (Value.slice A6 (N2 + N3) c6).ownBlock ≠ some g) A4 (N + 1) c4 (clsL S q k ++ [clsTo S k q]) := by
                refine hRq.weak fun g hgl hPg => ⟨hgl, fun he => ?_⟩
                rcases hat6 with h6 | h6
                · rw [h6] at he
                  rcases hPg with hPg | hPg
                  · rw [hPP.out] at hPg; exact hPg.2 he
                  · have h3 := hDH.out g he
                    have h4 := hclt.out g hPg
                    omega
                · rw [h6] at he
                  have he2 := Option.some.inj he
                  rcases hPg with hPg | hPg
                  · rw [hPP.out] at hPg
                    have := hPg.1
                    have h7 : Hs ≤ w4.heap.size := Nat.le_trans hHz (by have := hg4.size; simpa using this)
                    omega
                  · have := (hc5.lt g hPg).2
                    omega
              have hb7 := below_push hb5 hb5.size hD5 hg6
              clear hat4 hat6 hown4
              replace hRn := hide hRn
              go_roundw
              case rel => exact ⟨k + 1, N + 1, c4, N2 + N3, c6, A4, A6, by omega, by go_num, rfl, rfl, by rw [hstep.out]; exact hRn.out, by rw [hstep.out, List.flatten_append, List.map_append]; simpa using hown6, hb7⟩
              case measure => simp [intOf]; omega
            · have d1 : decide ((1 : Int) < (N3 : Int)) = false := by simp; omega
              have d1' : decide (1 < N3) = false := by simp; omega
              have hstep := hide (clsL_one (S := S) (n := q) (i := k) (by rw [lc]; exact h1))
              have hRn : RowsP wr wb.heap.size (fun g => g < wr.heap.size ∧ (Value.slice A2 N2 d2).ownBlock ≠ some g) A' N d (clsL S q k) := hR.weak fun g hgl hPg => ⟨hgl, by rw [hPP.out] at hPg; exact hPg.2⟩
              replace hRn := hide hRn
              replace hR := hide hR
              replace hc := hide hc
              replace hD := hide hD
              go_wp2_with fail
              go_roundw
              case rel => exact ⟨k + 1, N, d, N2, d2, A', A2, by omega, by go_num, rfl, rfl, by rw [hstep.out]; exact hRn.out, by rw [hstep.out]; exact hD.out, hb⟩
              case measure => simp [intOf]; omega
      · rw [ht] at hdn
        have hsk := hide (clsL_skip (n := n) ht)
        replace hdn := hide hdn
        clear ht
        replace hD := hide hD
        go_wp2_with fail
        refine (l2has _ _ _ _ (k : Int) _ rD).mono ?_
        rintro e w1 ⟨rfl, rfl⟩
        rw [hdn.out]
        go_wp2_with fail
        go_roundw
        case rel => exact ⟨k + 1, N, d, N2, d2, A', A2, by omega, by go_num, rfl, rfl, by rw [hsk.out]; exact hR.out, by rw [hsk.out]; exact hD.out, hb⟩
        case measure => simp [intOf]; omega
    · obtain rfl : k = n := by omega
      replace hR := hide hR
      replace hD := hide hD
      go_wp2_with fail
      go_ret
      exact ⟨A', N, d, rfl, hR.out.own.more (by omega), hbx.trans (hb.mono hbx.size)⟩
set_option maxHeartbeats 1600000 in
set_option maxRecDepth 100000 in
theorem specPar (m : Int) (A : Option Addr) (n c : Nat) (zss : List (List Int)) (mode s : Int) (w : World) (h : RowsAt w w.heap.size A n zss) :
    Calls Try.prog 49 #[.agg #[.int .i64 m, .slice A n c], .int .i64 mode, .int .i64 s] w (RetRows w (parL m zss mode s)) := by
  rcases hf : (isTabB m zss && modeB mode) with _ | _
  · have e := hide (show parL m zss mode s = [] by unfold parL parG; rw [hf]; rfl)
    replace hf := hide hf
    go_enter Try.func49, Try.ntmps49
    go_wp2_with fail
    refine (l4fine _ _ _ _ _ _ _ (h.later ?_)).mono ?_
    · go_grown
    rintro e' w1 ⟨rfl, hb1⟩
    rw [hf.out]
    obtain ⟨k0, k1, hk, hb⟩ := box2 hb1
    clear hb1
    have hst := RowsU.start w1 0
    have hb2 : Below w.heap.size w (w1.alloc (.cells #[] 29)) := hb.alloc hb.size _
    replace hst := hide (hst.more hb.size)
    go_wp2_with fail
    go_ret
    exact ⟨_, 0, 0, rfl, by rw [e.out]; exact hst.out.own, hb2⟩
  rcases hA : isAttrB m s with _ | _
  · have e := hide (show parL m zss mode s = [] by unfold parL parG; rw [hf, hA]; rfl)
    replace hf := hide hf
    replace hA := hide hA
    go_enter Try.func49, Try.ntmps49
    go_wp2_with fail
    refine (l4fine _ _ _ _ _ _ _ (h.later ?_)).mono ?_
    · go_grown
    rintro e' w1 ⟨rfl, hb1⟩
    rw [hf.out]
    obtain ⟨k0, k1, hk, hb⟩ := box2 hb1
    clear hb1
    have hst := RowsU.start w1 0
    have hb2 : Below w.heap.size w (w1.alloc (.cells #[] 29)) := hb.alloc hb.size _
    replace hst := hide (hst.more hb.size)
    go_wp2_with (go_at_call 66; refine (specAttr _ _ _).mono ?_; rintro e2 w2 ⟨rfl, rfl⟩; rw [hA.out])
    go_ret
    exact ⟨_, 0, 0, rfl, by rw [e.out]; exact hst.out.own, hb2⟩
  have hT : isTabB m zss = true := by rw [Bool.and_eq_true] at hf; exact hf.1
  obtain ⟨m1, m5, m40, hlen⟩ := isTabB_m hT
  have hs32 := isAttrB_le _ _ hA
  obtain ⟨M, rfl⟩ : ∃ M : Nat, m = M := ⟨m.toNat, by omega⟩
  obtain ⟨t, rfl⟩ : ∃ t : Nat, s = t := ⟨s.toNat, by omega⟩
  have e := hide (show parL M zss mode t = clsL (parS mode zss M t) n n by unfold parL parG; rw [hf, hA, h.1]; rfl)
  have hl : ∀ (i : Nat) (zs : List Int), zss[i]? = some zs → zs.length = M := fun i zs hz => by have := hlen i zs hz; omega
  have n40 : n ≤ 40 := by have := h.1; omega
  have hM5 : M ≤ 5 := by omega
  have ht32 : t < 32 := by omega
  replace hf := hide hf
  replace hA := hide hA
  replace hl := hide hl
  clear hlen hT
  go_enter Try.func49, Try.ntmps49
  go_wp2_with fail
  refine (l4fine _ _ _ _ _ _ _ (h.later ?_)).mono ?_
  · go_grown
  rintro e' w1 ⟨rfl, hb1⟩
  rw [hf.out]
  obtain ⟨k0, k1, hk, hb⟩ := box2 hb1
  clear hb1
  go_wp2_with (go_at_call 66; refine (specAttr _ _ _).mono ?_; rintro e2 w2 ⟨rfl, rfl⟩; rw [hA.out])
  refine (l5classes M A n c zss mode t _ (h.later hb) hM5 ht32 n40 hl.out).mono ?_
  rintro e3 w3 ⟨A3, n3, c3, rfl, ho3, hb3⟩
  go_wp2_with fail
  go_ret
  exact ⟨A3, n3, c3, rfl, by rw [e.out]; exact ho3.more hb.size, below_call hb hb3⟩
end Go.Proofs.Ytkcckfpihpfbnaa
