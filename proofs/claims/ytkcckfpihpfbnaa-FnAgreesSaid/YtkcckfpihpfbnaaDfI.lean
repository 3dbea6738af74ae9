/-
  DifferenceSets of the program.
  Conditions: as each theorem says.
-/
import Derived.Test.YtkcckfpihpfbnaaDfS
namespace Go.Proofs.Ytkcckfpihpfbnaa
open Go.RowKit
set_option linter.unusedVariables false

theorem hasCol2 (m : Int) (v : Value) (j : Int) (w : World) : Calls Try.prog 78 #[.agg #[.int .i64 m, v], .int .i64 j] w (RetVal w (.bool (decide (0 ≤ j) && decide (j < m)))) := by
  by_cases h1 : 0 ≤ j <;> by_cases h2 : j < m
  all_goals
    go_enter Try.func78, Try.ntmps78
    go_wp2_with fail
    go_ret
    exact ⟨ret_bool (by simp [h1, h2]), by go_grown⟩
set_option maxHeartbeats 3200000 in
set_option maxRecDepth 100000 in
theorem implDfS (m : Int) (A : Option Addr) (n c : Nat) (zss : List (List Int)) (mode col : Int) (w : World) (h : RowsAt w w.heap.size A n zss) (hcap : n ≤ c) :
    Calls Try.prog 18 #[.agg #[.int .i64 m, .slice A n c], .int .i64 mode, .int .i64 col] w (RetRow 3 w ((dfsL m zss mode col).map (Value.int .i64))) := by
  have hal := agsL_low (m := m) (zss := zss) (mode := mode)
  have hlen := agsL_len m zss mode
  obtain ⟨D, hD⟩ : ∃ D, D = dfsL m zss mode col := ⟨_, rfl⟩
  have hD2 := hD
  unfold dfsL at hD2
  have hT0 : isTabB m zss = false → D = [] := by
    intro hT
    rw [hD2, show agsL m zss mode = [] by unfold agsL; rw [if_neg]; unfold agsG; rw [hT]; simp]
    split
    · exact distL_nil
    · rfl
  have hT1 : isTabB m zss = true → 1 ≤ m ∧ m ≤ 5 := fun hT => ⟨(isTabB_m hT).1, (isTabB_m hT).2.1⟩
  obtain ⟨L, hL⟩ : ∃ L, L = agsL m zss mode := ⟨_, rfl⟩
  rw [← hL] at hal hlen hD2
  rw [← hD]
  clear hD
  replace hL := hide hL
  replace hD2 := hide hD2
  replace hT1 := hide hT1
  replace hal := hide hal.2
  have start : ∀ (Q : Prop), (∀ wb wc : World, wb.heap.size = w.heap.size + 1 → Below w.heap.size w wb → Below wb.heap.size wb wc → wc.ownsRow wb.heap.size 3 1 (.slice (some ⟨w.heap.size + 1, 0, none⟩) 0 0) 0 (([] : List Int).map (Value.int .i64)) → wb.cell? ⟨w.heap.size, 0, none⟩ = some (.int .i64 m) → wb.cell? ⟨w.heap.size, 1, none⟩ = some (.slice A n c) → wc = (w.alloc (.cells #[.int .i64 m, .slice A n c] 26)).alloc (.cells #[] 3) → Q) → Q := by
    intro Q hQ
    obtain ⟨wb, hwb⟩ : ∃ wb, wb = w.alloc (.cells #[.int .i64 m, .slice A n c] 26) := ⟨_, rfl⟩
    have hwz : wb.heap.size = w.heap.size + 1 := by rw [hwb]; simp
    have hbx : Below w.heap.size w wb := by rw [hwb]; go_grown
    have hst := own_start wb 3
    obtain ⟨wc, hwc⟩ : ∃ wc, wc = wb.alloc (.cells #[] 3) := ⟨_, rfl⟩
    have hbc : Below wb.heap.size wb wc := by rw [hwc]; go_grown
    have k0 : wb.cell? ⟨w.heap.size, 0, none⟩ = some (.int .i64 m) := by rw [hwb, World.cell?_alloc_at _ _ _ _ rfl]; rfl
    have k1 : wb.cell? ⟨w.heap.size, 1, none⟩ = some (.slice A n c) := by rw [hwb, World.cell?_alloc_at _ _ _ _ rfl]; rfl
    rw [← hwc] at hst
    exact hQ wb wc hwz hbx hbc (by rw [← hwz]; exact hst) k0 k1 (by rw [hwc, hwb])
  replace start := hide start
  rcases hT : isTabB m zss with _ | _
  · have hDn := hide (hT0 hT)
    replace hT := hide hT
    clear hT0
    go_enter Try.func18, Try.ntmps18
    go_wp2_with fail
    refine start.out _ fun wb wc hwz hbx hbc hst' k0 k1 hwc => ?_
    have h' := h.later hbx
    rw [← hwc]
    clear hwc h
    refine (implIsTab _ _ _ _ _ _ (h'.later hbc)).mono ?_
    rintro e w1 ⟨rfl, hb1⟩
    rw [hT.out]
    replace hst' := own_below hst' hb1
    replace hbc := hbc.trans (hb1.mono hbc.size)
    go_wp2_with fail
    go_ret
    exact ⟨_, 0, 0, rfl, by rw [hDn.out]; exact own_more hst' (by omega), hbx.trans (hbc.mono hbx.size)⟩
  obtain ⟨m1, m5⟩ := hT1.out hT
  replace hT := hide hT
  clear hT0
  rcases hin : (decide (0 ≤ col) && decide (col < m)) with _ | _
  · have hDn := hide (show D = [] by rw [hD2.out, if_neg]; simp at hin ⊢; omega)
    replace hin := hide hin
    go_enter Try.func18, Try.ntmps18
    go_wp2_with fail
    refine start.out _ fun wb wc hwz hbx hbc hst' k0 k1 hwc => ?_
    have h' := h.later hbx
    rw [← hwc]
    clear hwc h
    refine (implIsTab _ _ _ _ _ _ (h'.later hbc)).mono ?_
    rintro e w1 ⟨rfl, hb1⟩
    rw [hT.out]
    replace hst' := own_below hst' hb1
    replace hbc := hbc.trans (hb1.mono hbc.size)
    have k0' := cell_below hbc k0 (by omega)
    have k1' := cell_below hbc k1 (by omega)
    clear hb1
    go_wp2_with fail
    refine (hasCol2 _ _ _ _).mono ?_
    rintro e w2 ⟨rfl, hb2⟩
    rw [hin.out]
    go_wp2_with fail
    go_ret
    exact ⟨_, 0, 0, rfl, by rw [hDn.out]; exact own_more (own_below hst' hb2) (by omega), hbx.trans ((hbc.trans (hb2.mono hbc.size)).mono hbx.size)⟩
  have hin2 : 0 ≤ col ∧ col < m := by simpa using hin
  obtain ⟨j, rfl⟩ : ∃ j : Nat, col = j := ⟨col.toNat, by omega⟩
  obtain ⟨M, rfl⟩ : ∃ M : Nat, m = M := ⟨m.toNat, by omega⟩
  have hDn := hide (show D = distL (dfF M j L) by rw [hD2.out, if_pos]; rfl; simp; omega)
  replace hin := hide hin
  have hj5 : j < 5 := by omega
  have hM5 : M ≤ 5 := by omega
  obtain ⟨P, hP⟩ : ∃ P : Int, P = ((2 ^ j : Nat) : Int) := ⟨_, rfl⟩
  have hwP : IntKind.i64.wrap ((2 : Int) ^ j) = P := by rw [hP]; exact kwrap_pow5 j (by omega)
  obtain ⟨R, hR⟩ : ∃ R : Int, R = ((2 ^ M : Nat) : Int) := ⟨_, rfl⟩
  have hwR : IntKind.i64.wrap ((2 : Int) ^ M) = R := by rw [hR]; exact kwrap_pow5 M (by omega)
  obtain ⟨F, hF⟩ : ∃ F : Int, F = ((2 ^ M : Nat) : Int) - 1 := ⟨_, rfl⟩
  have h2M : (2 : Nat) ^ M ≤ 2 ^ 5 := Nat.pow_le_pow_right (by omega) hM5
  have h2P : 0 < (2 : Nat) ^ M := Nat.pow_pos (by omega)
  have hwF : IntKind.i64.wrap (R - 1) = F := by rw [hR, hF]; generalize (2 : Nat) ^ M = E2 at h2M h2P ⊢; exact IntWalk.i64_in _ (by omega)
  have hE : ∀ x : Int, bits .andNot .i64 (bits .andNot .i64 F x) P = dfE M j x := fun x => by unfold dfE; rw [hF, hP]
  replace hE := hide hE
  replace hF := hide hF
  replace hP := hide hP
  replace hR := hide hR
  clear hin2 h2M
  go_enter Try.func18, Try.ntmps18
  go_wp2_with fail
  refine start.out _ fun wb wc hwz hbx hbc hst' k0 k1 hwc => ?_
  have h' := h.later hbx
  have hk : w.heap.size < wb.heap.size := by omega
  rw [← hwc]
  clear hwc h hwz
  refine (implIsTab _ _ _ _ _ _ (h'.later hbc)).mono ?_
  rintro e w1 ⟨rfl, hb1⟩
  rw [hT.out]
  replace hst' := own_below hst' hb1
  replace hbc := hbc.trans (hb1.mono hbc.size)
  have k0' := cell_below hbc k0 hk
  have k1' := cell_below hbc k1 hk
  clear hb1
  go_wp2_with fail
  refine (hasCol2 _ _ _ _).mono ?_
  rintro e w2 ⟨rfl, hb2⟩
  rw [hin.out]
  replace k0' := cell_below hb2 k0' (Nat.lt_of_lt_of_le hk hbc.size)
  replace k1' := cell_below hb2 k1' (Nat.lt_of_lt_of_le hk hbc.size)
  go_wp2_with fail
  replace hst' := own_below hst' hb2
  replace hbc := hbc.trans (hb2.mono hbc.size)
  clear hb2
  refine (implAgS _ _ _ _ _ _ _ (h'.later hbc) hcap).mono ?_
  rintro e w3 ⟨A1, a1, c1, rfl, hoA, hb1⟩
  rw [← hL.out] at hoA
  have hla : a1 = L.length := by have := own_len hoA; simpa using this.symm
  have hdis : ∀ g, (Value.slice A1 a1 c1).ownBlock = some g → (Value.slice (some ⟨w.heap.size + 1, 0, none⟩) 0 0).ownBlock ≠ some g := by
    intro g hg he
    have h1 := (hoA.lt g hg).1
    have h2 := (hst'.lt _ rfl).2
    simp [Value.ownBlock] at he
    simp at h2
    omega
  replace hst' := own_below hst' hb1
  replace hoA := own_more hoA (B' := wb.heap.size) hbc.size
  replace hbc := hbc.trans (hb1.mono hbc.size)
  clear hb1 k0' k1'
  have hdis' := hide hdis
  clear hdis
  have ha32 : a1 ≤ 32 := by omega
  replace hla := hide hla
  have hoA' := hide hoA
  clear hoA
  go_wp2_with fail
  go_loopw [7, 9, 25] (fun out _ i wr => ∃ (k N d : Nat) (A' : Option Addr), k ≤ a1 ∧ i = .int .i64 (k : Int) ∧ out = .slice A' N d ∧ wr.ownsRow wb.heap.size 3 1 (.slice A' N d) N ((dfF M j (L.take k)).map (Value.int .i64)) ∧ Below wb.heap.size wb wr ∧ wr.ownsRow wb.heap.size 3 1 (.slice A1 a1 c1) a1 (L.map (Value.int .i64)) ∧ (∀ g, (Value.slice A1 a1 c1).ownBlock = some g → (Value.slice A' N d).ownBlock ≠ some g)) (fun _ _ i _ => a1 - (intOf i).toNat)
  case atStart => exact ⟨0, 0, 0, _, by omega, rfl, rfl, hst', hbc, hoA'.out, hdis'.out⟩
  case round =>
    clear hst' hbc hoA' hdis'
    obtain ⟨k, N, d, A', hkn, rfl, rfl, hown, hb, hoA, hdis⟩ := hrel
    have k0' := cell_below hb k0 hk
    have k1' := cell_below hb k1 hk
    replace hdis := hide hdis
    by_cases hlt : k < a1
    · obtain ⟨b, o, x, rfl, hbx2, hx, hc⟩ := at_int (Reads.of_own hoA) hlt
      have hx31 := hal.out x (List.mem_of_getElem? hx)
      have hN : N ≤ 32 := by
        have h1 := own_len hown
        have h3 := dfF_len M j (L.take k)
        rw [List.length_map] at h1
        rw [List.length_take] at h3
        omega
      replace hoA := hide hoA
      rcases hh : hasB x j with _ | _
      · have hstep := hide (dfF_yes (M := M) hx hh)
        replace hh := hide hh
        replace hx := hide hx
        go_wp2_with (go_at_call 79; refine (has_any _ j _ (by omega)).mono ?_; rintro e w2 ⟨rfl, rfl⟩; rw [hh.out])
        go_region_law (first
          | (refine step_pushes elemInt rfl (.tmp 33) (.tmp 43) _ [.int .i64 (bits .andNot .i64 (bits .andNot .i64 F x) P)] 1 rfl (by decide) rfl wb.heap.size (.slice A' N d) N _ rfl wr.heap.size 1 rfl (by exact (hown.alloc _).drew) (cells_new2 _ _ _) (oneCells rfl) (by omega) (by simp; have := hb.size; omega) ?_; intro A2 c2 w2 hown2 hg2 hat2))
        all_goals
          have hbd : Below wb.heap.size wb (wr.alloc (.cells #[.int .i64 (bits .andNot .i64 (bits .andNot .i64 F x) P)] 3)).drew := (hb.alloc hb.size _).drew
          have hob := (hown.alloc (.cells #[.int .i64 (bits .andNot .i64 (bits .andNot .i64 F x) P)] 3)).drew
          have hbn := below_push hbd (by have := hb.size; simp; omega) hob hg2
          have hoA2 := World.ownsRow.kept ((hoA.out.alloc (.cells #[.int .i64 (bits .andNot .i64 (bits .andNot .i64 F x) P)] 3)).drew) hg2 (by
            rcases hq0 : (Value.slice (some ⟨b, o, none⟩) a1 c1).ownBlock with _ | g
            · exact .inl rfl
            · exact .inr fun he => hdis.out g hq0 he.symm)
          have hdis2 : ∀ g, (Value.slice (some ⟨b, o, none⟩) a1 c1).ownBlock = some g → (Value.slice A2 (N + 1) c2).ownBlock ≠ some g := by
            intro g hg0 he
            rcases hat2 with h2 | h2
            · exact hdis.out g hg0 (h2 ▸ he)
            · rw [h2] at he
              have e2 := Option.some.inj he
              have := (hoA.out.lt g hg0).2
              simp at e2
              omega
          rw [hE.out] at hown2
          replace hdis2 := hide hdis2
          replace hoA2 := hide hoA2
          clear hat2 hbd hob
          go_wp2_with fail
          go_roundw
          case rel => exact ⟨k + 1, N + 1, c2, A2, by omega, by go_num, rfl, by rw [hstep.out, List.map_append]; exact hown2, hbn, hoA2.out, hdis2.out⟩
          case measure => simp [intOf]; omega
      · have hstep := hide (dfF_no (M := M) hx hh)
        replace hh := hide hh
        replace hx := hide hx
        replace hown := hide hown
        go_wp2_with (go_at_call 79; refine (has_any _ j _ (by omega)).mono ?_; rintro e w2 ⟨rfl, rfl⟩; rw [hh.out])
        go_roundw
        case rel => exact ⟨k + 1, N, d, A', by omega, by go_num, rfl, by rw [hstep.out]; exact hown.out, hb, hoA.out, hdis.out⟩
        case measure => simp [intOf]; omega
    · obtain rfl : k = a1 := by omega
      have hN : N ≤ 32 := by
        have h1 := own_len hown
        have h3 := dfF_len M j (L.take k)
        rw [List.length_map] at h1
        rw [List.length_take] at h3
        omega
      have hle := hide (show L.take k = L by rw [hla.out, List.take_length])
      rw [hle.out] at hown
      have hrd := Reads.of_own hown
      have hcp := own_cap hown
      replace hown := hide hown
      replace hoA := hide hoA
      replace hcp := hide hcp
      go_wp2_with fail
      refine (implDist _ _ _ _ _ hrd hcp.out (by omega)).mono ?_
      rintro e w4 ⟨A4, n4, c4, rfl, ho4, hb4⟩
      go_wp2_with fail
      go_ret
      exact ⟨A4, n4, c4, rfl, by rw [hDn.out]; exact own_more ho4 (Nat.le_trans (Nat.le_of_lt hk) hb.size), hbx.trans ((hb.trans (hb4.mono hb.size)).mono hbx.size)⟩
end Go.Proofs.Ytkcckfpihpfbnaa
