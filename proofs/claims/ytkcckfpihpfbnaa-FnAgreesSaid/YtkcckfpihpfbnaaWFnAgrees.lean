/-
  The walk of the law FnAgrees: it returns true: agree sets are those of the pairs of rows, and difference sets are what is left of them.
  Conditions: none; every argument that can be read as data.
-/
import Derived.Test.YtkcckfpihpfbnaaAgrQ
import Derived.Test.YtkcckfpihpfbnaaCap
import Derived.Test.YtkcckfpihpfbnaaMaxS
import Derived.Test.YtkcckfpihpfbnaaMinS
import Derived.Test.YtkcckfpihpfbnaaDraw7
import Derived.Deep.RegionHeld3
import Derived.Deep.Cut
namespace Go.Proofs.Ytkcckfpihpfbnaa.lFnAgrees
open Go.RowKit
set_option linter.unusedVariables false

set_option maxHeartbeats 16000000 in
set_option maxRecDepth 100000 in
theorem walk (w : World) (A : Option Addr) (n c : Nat) (zs : List Int) (h : Reads w w.heap.size A n (zs.map (Value.int .u8)) ∧ ∀ z ∈ zs, 0 ≤ z ∧ z ≤ 255) :
    Calls Try.prog 3 #[.slice A n c] w (RetVal w (.bool true)) := by
  obtain ⟨hr, hz⟩ := h
  have hn := hr.bound
  replace hz := hide hz
  by_cases hbig : 1048576 < n
  · have d0 := hide (show decide ((1048576 : Int) < (n : Int)) = true by simp; omega)
    go_enter Try.func3, Try.ntmps3
    go_wp2_with (go_at_call 15; refine (lawBigA _ _ _ _ _ d0.out).mono ?_; rintro e w1 ⟨rfl, rfl⟩)
    go_ret
    exact ⟨rfl, Below.refl _ _⟩
  have hnb : n ≤ 1048576 := by omega
  have d0 := hide (show decide ((1048576 : Int) < (n : Int)) = false by simp; omega)
  clear hbig
  go_enter Try.func3, Try.ntmps3
  go_wp2_with (go_at_call 15; refine (lawBigA _ _ _ _ _ d0.out).mono ?_; rintro e w1 ⟨rfl, rfl⟩)
  refine (drawDiff A n c zs _ hr hz.out hnb).mono ?_
  rintro e w1 ⟨A1, N, d1, col, mode, x0, zss, rfl, hN, hR1, hb⟩
  have ho1 := hR1.own
  have hcap := ho1.cap
  have lz := ho1.1
  obtain ⟨tb, htb⟩ : ∃ tb, tb = w1.heap.size := ⟨_, rfl⟩
  obtain ⟨wa, hwa⟩ : ∃ wa, wa = w1.alloc (.cells #[.int .i64 col, .slice A1 N d1] 26) := ⟨_, rfl⟩
  have hba : Below w1.heap.size w1 wa := by rw [hwa]; exact (Below.refl _ _).alloc (Nat.le_refl _) _
  have hoa := ho1.below hba
  have k0 : wa.cell? ⟨tb, 0, none⟩ = some (.int .i64 col) := by rw [hwa, htb, World.cell?_alloc_at _ _ _ _ rfl]; rfl
  have k1 : wa.cell? ⟨tb, 1, none⟩ = some (.slice A1 N d1) := by rw [hwa, htb, World.cell?_alloc_at _ _ _ _ rfl]; rfl
  have hk : tb < wa.heap.size := by rw [hwa, htb]; simp
  replace hb := below_call hb hba
  replace hwa := hide hwa
  replace htb := hide htb
  replace lz := hide lz
  clear hR1 ho1 hba
  obtain ⟨V, hV⟩ : ∃ V, V = agsL col zss mode := ⟨_, rfl⟩
  obtain ⟨D, hD⟩ : ∃ D, D = dfsL col zss mode x0 := ⟨_, rfl⟩
  replace hV := hide hV
  replace hD := hide hD
  go_wp2_with fail
  rw [← hwa.out, ← htb.out]
  refine (implAgS _ _ _ _ _ _ _ hoa.rows hcap).mono ?_
  rintro e w2 ⟨AS, nS, cS, rfl, hoS, hb1⟩
  rw [← hV.out] at hoS
  obtain rfl : V.length = nS := by have := own_len hoS; simpa using this
  have rS := Reads.of_own hoS
  clear hoS
  replace hoa := hoa.below hb1
  replace k0 := cell_below hb1 k0 hk
  replace k1 := cell_below hb1 k1 hk
  replace hk := Nat.lt_of_lt_of_le hk hb1.size
  replace hb := below_call hb hb1
  clear hb1
  go_wp2_with fail
  refine (implDfS _ _ _ _ _ _ _ _ hoa.rows hcap).mono ?_
  rintro e w3 ⟨AD, nD, cD, rfl, hoD, hb1⟩
  rw [← hD.out] at hoD
  obtain rfl : D.length = nD := by have := own_len hoD; simpa using this
  have rD := Reads.of_own hoD
  clear hoD
  replace rS := (rS.below hb1).more hb1.size
  replace hoa := hoa.below hb1
  replace k0 := cell_below hb1 k0 hk
  replace k1 := cell_below hb1 k1 hk
  replace hk := Nat.lt_of_lt_of_le hk hb1.size
  replace hb := below_call hb hb1
  clear hb1
  go_wp2_with fail
  refine (specAgS _ _ _ _ _ _ _ hoa.rows).mono ?_
  rintro e w4 ⟨A4, n4, c4, rfl, ho4, hb1⟩
  rw [← hV.out] at ho4
  obtain rfl : V.length = n4 := by have := own_len ho4; simpa using this
  have r4 := Reads.of_own ho4
  clear ho4
  replace rS := (rS.below hb1).more hb1.size
  replace rD := (rD.below hb1).more hb1.size
  replace hoa := hoa.below hb1
  replace k0 := cell_below hb1 k0 hk
  replace k1 := cell_below hb1 k1 hk
  replace hk := Nat.lt_of_lt_of_le hk hb1.size
  replace hb := below_call hb hb1
  clear hb1
  go_wp2_with fail
  refine (lawSame1 _ _ _ _ _ _ V _ rS r4).mono ?_
  rintro e w5 ⟨rfl, hb1⟩
  clear r4
  replace rS := (rS.below hb1).more hb1.size
  replace rD := (rD.below hb1).more hb1.size
  replace hoa := hoa.below hb1
  replace k0 := cell_below hb1 k0 hk
  replace k1 := cell_below hb1 k1 hk
  replace hk := Nat.lt_of_lt_of_le hk hb1.size
  replace hb := below_call hb hb1
  clear hb1
  go_wp2_with fail
  refine (specDfS _ _ _ _ _ _ _ _ hoa.rows).mono ?_
  rintro e w4 ⟨A4, n4, c4, rfl, ho4, hb1⟩
  rw [← hD.out] at ho4
  obtain rfl : D.length = n4 := by have := own_len ho4; simpa using this
  have r4 := Reads.of_own ho4
  clear ho4
  replace rS := (rS.below hb1).more hb1.size
  replace rD := (rD.below hb1).more hb1.size
  replace hoa := hoa.below hb1
  replace k0 := cell_below hb1 k0 hk
  replace k1 := cell_below hb1 k1 hk
  replace hk := Nat.lt_of_lt_of_le hk hb1.size
  replace hb := below_call hb hb1
  clear hb1
  go_wp2_with fail
  refine (lawSame1 _ _ _ _ _ _ D _ rD r4).mono ?_
  rintro e w5 ⟨rfl, hb1⟩
  clear r4
  replace rS := (rS.below hb1).more hb1.size
  replace rD := (rD.below hb1).more hb1.size
  replace hoa := hoa.below hb1
  replace k0 := cell_below hb1 k0 hk
  replace k1 := cell_below hb1 k1 hk
  replace hk := Nat.lt_of_lt_of_le hk hb1.size
  replace hb := below_call hb hb1
  clear hb1
  go_upto_region 8 with fail
  rename_i Ka hKa Kb hKb
  replace hKb := hide hKb
  go_wp2_with fail
  refine hKb.out _ _ ?_
  go_cut [] from 20 (fun wc => Below w5.heap.size w5 wc)
  case first =>
    go_wp2_with fail
    rcases hTb : isTabB col zss with _ | _
    · replace hTb := hide hTb
      go_loopw [8, 9] (fun i _ wr => ∃ q : Nat, i = .int .i64 (q : Int) ∧ q ≤ N ∧ Below w5.heap.size w5 wr) (fun i _ _ => N - (intOf i).toNat)
      case atStart => exact ⟨0, rfl, by omega, Below.refl _ _⟩
      case round =>
        obtain ⟨q, rfl, hq, hbr⟩ := hrel
        have r0 := cell_below hbr k0 hk
        have r1 := cell_below hbr k1 hk
        by_cases hlt : q < N
        · go_wp2_with (go_at_call 22; refine (specIsTab _ _ _ _ _ _ ((hoa.below hbr).rows)).mono ?_; rintro e w6 ⟨rfl, hb6⟩; rw [hTb.out])
          go_meet
          case rel => exact below_call hbr hb6
        · obtain rfl : q = N := by omega
          go_wp2_with fail
          go_meet
          case rel => exact hbr
    · rcases hMo : modeB mode with _ | _
      · have hmm : mode < 0 ∨ 1 < mode := by
          by_cases h0 : 0 ≤ mode
          · right
            rcases Int.lt_or_le 1 mode with h1 | h1
            · exact h1
            · exfalso
              have : mode = 0 ∨ mode = 1 := by omega
              rcases this with rfl | rfl <;> cases hMo
          · left; omega
        replace hTb := hide hTb
        replace hMo := hide hMo
        go_loopw [8, 9] (fun i _ wr => ∃ q : Nat, i = .int .i64 (q : Int) ∧ q ≤ N ∧ Below w5.heap.size w5 wr) (fun i _ _ => N - (intOf i).toNat)
        case atStart => exact ⟨0, rfl, by omega, Below.refl _ _⟩
        case round =>
          obtain ⟨q, rfl, hq, hbr⟩ := hrel
          have r0 := cell_below hbr k0 hk
          have r1 := cell_below hbr k1 hk
          by_cases hlt : q < N
          · rcases hmm with hmm | hmm
            · have e1 : decide (0 ≤ mode) = false := by simp; omega
              go_wp2_with (go_at_call 22; refine (specIsTab _ _ _ _ _ _ ((hoa.below hbr).rows)).mono ?_; rintro e w6 ⟨rfl, hb6⟩; rw [hTb.out])
              go_meet
              case rel => exact below_call hbr hb6
            · have e1 : decide (0 ≤ mode) = true := by simp; omega
              have e2 : decide (mode ≤ 1) = false := by simp; omega
              go_wp2_with (go_at_call 22; refine (specIsTab _ _ _ _ _ _ ((hoa.below hbr).rows)).mono ?_; rintro e w6 ⟨rfl, hb6⟩; rw [hTb.out])
              go_meet
              case rel => exact below_call hbr hb6
          · obtain rfl : q = N := by omega
            go_wp2_with fail
            go_meet
            case rel => exact hbr
      · have hmm : mode = 0 ∨ mode = 1 := by
          unfold modeB at hMo
          simpa using hMo
        have e1 : decide (0 ≤ mode) = true := by simp; omega
        have e2 : decide (mode ≤ 1) = true := by simp; omega
        have hmem := hide (fun (i k : Nat) (hi : i < zss.length) (hk : k < zss.length) (hne : i < k) => agr_mem (mode := mode) hTb hMo hi hk hne)
        replace hTb := hide hTb
        replace hMo := hide hMo
        replace hmm := hide hmm
        go_loopw [8, 9] (fun i _ wr => ∃ q : Nat, i = .int .i64 (q : Int) ∧ q ≤ N ∧ Below w5.heap.size w5 wr) (fun i _ _ => N - (intOf i).toNat)
        case atStart => exact ⟨0, rfl, by omega, Below.refl _ _⟩
        case round =>
          obtain ⟨q, rfl, hq, hbr⟩ := hrel
          have r0 := cell_below hbr k0 hk
          have r1 := cell_below hbr k1 hk
          by_cases hlt : q < N
          · go_wp2_with (go_at_call 22; refine (specIsTab _ _ _ _ _ _ ((hoa.below hbr).rows)).mono ?_; rintro e w6 ⟨rfl, hb6⟩; rw [hTb.out])
            have hbs := below_call hbr hb6
            clear hb6 hbr r0 r1
            go_loopw [9] (fun i wr => ∃ p : Nat, i = .int .i64 (p : Int) ∧ q + 1 ≤ p ∧ p ≤ N ∧ Below w5.heap.size w5 wr) (fun i _ => N - (intOf i).toNat)
            case atStart => exact ⟨q + 1, by go_num, by omega, by omega, hbs⟩
            case round =>
              obtain ⟨p, rfl, hp1, hp, hbr⟩ := hrel
              have r0 := cell_below hbr k0 hk
              have r1 := cell_below hbr k1 hk
              by_cases hpl : p < N
              · have hin := hmem.out q p (by have := lz.out; omega) (by have := lz.out; omega) (by omega)
                rw [← hV.out] at hin
                obtain ⟨X, hX⟩ : ∃ X, X = agrV col zss mode (q : Int) (p : Int) := ⟨_, rfl⟩
                have hX2 : agrV col zss mode (p : Int) (q : Int) = X := by rw [hX, agr_symm]
                rw [← hX] at hin
                replace hX := hide hX
                replace hX2 := hide hX2
                replace hin := hide hin
                have hrows := hide (fun (W : World) (hW : Below wr.heap.size wr W) => ((hoa.below hbr).below hW).rows)
                have hreads := hide (fun (W : World) (hW : Below wr.heap.size wr W) => ((((rS.below hbr).more hbr.size).below hW).more hW.size))
                have htbr : tb < wr.heap.size := Nat.lt_of_lt_of_le hk hbr.size
                go_wp2_with fail
                go_region_held3 (fun w' => Below wr.heap.size wr w' ∧ w'.cell? ⟨tb, 0, none⟩ = some (.int .i64 col) ∧ w'.cell? ⟨tb, 1, none⟩ = some (.slice A1 N d1))
                  (first
                    | exact ⟨(Below.refl _ _).drew, by assumption, by assumption⟩
                    | (go_split_ands; exact keepT (by assumption) (by assumption) (by assumption) htbr hb9)
                    | go_keep)
                  (first
                    | (go_split_ands; go_at_call 23; refine (lawHas _ _ _ _ _ _ (hreads.out _ ?_) hin.out).mono ?_; assumption; rintro e w9 ⟨rfl, rfl⟩)
                    | (go_split_ands; go_at_call 24; refine (implAgr _ _ _ _ _ _ _ _ _ (hrows.out _ ?_)).mono ?_; assumption; rintro e w9 ⟨rfl, hb9⟩; first | rw [← hX.out] | rw [hX2.out]))
                all_goals
                  go_split_ands
                  have hbn : Below w5.heap.size w5 w9 := below_call hbr (by assumption)
                  go_wp2_with fail
                  go_roundw
                  case rel => exact ⟨p + 1, by go_num, by omega, by omega, hbn⟩
                  case measure => simp [intOf]; omega
              · obtain rfl : p = N := by omega
                go_wp2_with fail
                go_roundw
                case rel => exact ⟨q + 1, by go_num, by omega, hbr⟩
                case measure => simp [intOf]; omega
          · obtain rfl : q = N := by omega
            go_wp2_with fail
            go_meet
            case rel => exact hbr
  case rest =>
    go_wp2_with fail
    have hB := below_call hb hcut
    refine (drawMax A n c zs _ ((hr.below hB).more hB.size) hz.out hnb).mono ?_
    rintro e w6 ⟨A6, n6, c6, ls, rfl, ho6, hn6, hb1⟩
    have rL := Reads.of_own ho6
    have hcA := own_cap ho6
    replace hB := below_call hB hb1
    clear hb1 ho6
    obtain ⟨T, hT⟩ : ∃ T, T = topL true ls := ⟨_, rfl⟩
    obtain ⟨M, hM⟩ : ∃ M, M = topL false ls := ⟨_, rfl⟩
    replace hT := hide hT
    replace hM := hide hM
    replace hcA := hide (hcA)
    go_wp2_with fail
    refine (implMax _ _ _ ls _ rL hcA.out).mono ?_
    rintro e w7 ⟨A7, n7, c7, rfl, ho7, hb1⟩
    rw [← hT.out] at ho7
    have rT := Reads.of_own ho7
    have brT := rT.bound
    replace rL := (rL.below hb1).more hb1.size
    replace hB := below_call hB hb1
    clear hb1 ho7
    replace hcA := hide (hcA.out)
    go_wp2_with fail
    refine (implMin _ _ _ ls _ rL hcA.out).mono ?_
    rintro e w8 ⟨A8, n8, c8, rfl, ho7, hb1⟩
    rw [← hM.out] at ho7
    have rM := Reads.of_own ho7
    have brM := rM.bound
    replace rT := (rT.below hb1).more hb1.size
    replace rL := (rL.below hb1).more hb1.size
    replace hB := below_call hB hb1
    clear hb1 ho7
    replace rL := hide rL
    replace rT := hide rT
    replace rM := hide rM
    go_wp2_with fail
    go_loopw [13, 14] (fun i _ wr => ∃ q : Nat, i = .int .i64 (q : Int) ∧ q ≤ n7 ∧ Below w8.heap.size w8 wr) (fun i _ _ => n7 - (intOf i).toNat)
    case atStart => exact ⟨0, rfl, by omega, Below.refl _ _⟩
    case round =>
      obtain ⟨q, rfl, hq, hbr⟩ := hrel
      by_cases hlt : q < n7
      · go_wp2_with fail
        go_loopw [14] (fun i wr => ∃ p : Nat, i = .int .i64 (p : Int) ∧ p ≤ n6 ∧ Below w8.heap.size w8 wr) (fun i _ => n6 - (intOf i).toNat)
        case atStart => exact ⟨0, rfl, by omega, hbr⟩
        case round =>
          clear hbr
          obtain ⟨p, rfl, hp, hbr⟩ := hrel
          by_cases hpl : p < n6
          · obtain ⟨b6, o6, y, rfl, hbb6, hy, hcy⟩ := at_int (rL.out.below hbr) hpl
            obtain ⟨b7, o7, x, rfl, hbb7, hx, hcx⟩ := at_int (rT.out.below hbr) hlt
            have hmx := List.mem_of_getElem? hx
            rw [hT.out] at hmx
            have htop := top_max hmx (List.mem_of_getElem? hy)
            replace hx := hide hx
            replace hy := hide hy
            replace hmx := hide hmx
            by_cases hxy : y = x
            · have hq1 : (y != x) = false := by rw [hxy]; simp
              replace htop := hide htop
              replace hxy := hide hxy
              go_wp2_with fail
              go_quiet (fail)
              go_wp2_with fail
              go_roundw
              case rel => exact ⟨p + 1, by go_num, by omega, below_drewN hbr _⟩
              case measure => simp [intOf]; omega
            · have hq1 : (y != x) = true := by rw [bne_iff_ne]; exact hxy
              have hq2 : (bits .and .i64 y x == x) = false := by rw [beq_eq_false_iff_ne.2 hxy] at htop; simpa using htop
              replace htop := hide htop
              replace hxy := hide hxy
              go_wp2_with fail
              go_quiet (fail)
              go_wp2_with fail
              go_roundw
              case rel => exact ⟨p + 1, by go_num, by omega, below_drewN hbr _⟩
              case measure => simp [intOf]; omega
          · obtain rfl : p = n6 := by omega
            go_wp2_with fail
            go_roundw
            case rel => exact ⟨q + 1, by go_num, by omega, hbr⟩
            case measure => simp [intOf]; omega
      · obtain rfl : q = n7 := by omega
        go_wp2_with fail
        go_loopw [15, 16] (fun i _ wr => ∃ q : Nat, i = .int .i64 (q : Int) ∧ q ≤ n8 ∧ Below w8.heap.size w8 wr) (fun i _ _ => n8 - (intOf i).toNat)
        case atStart => exact ⟨0, rfl, by omega, hbr⟩
        case round =>
          clear hbr
          obtain ⟨q, rfl, hq, hbr⟩ := hrel
          by_cases hlt : q < n8
          · go_wp2_with fail
            go_loopw [16] (fun i wr => ∃ p : Nat, i = .int .i64 (p : Int) ∧ p ≤ n6 ∧ Below w8.heap.size w8 wr) (fun i _ => n6 - (intOf i).toNat)
            case atStart => exact ⟨0, rfl, by omega, hbr⟩
            case round =>
              clear hbr
              obtain ⟨p, rfl, hp, hbr⟩ := hrel
              by_cases hpl : p < n6
              · obtain ⟨b6, o6, y, rfl, hbb6, hy, hcy⟩ := at_int (rL.out.below hbr) hpl
                obtain ⟨b7, o7, x, rfl, hbb7, hx, hcx⟩ := at_int (rM.out.below hbr) hlt
                have hmx := List.mem_of_getElem? hx
                rw [hM.out] at hmx
                have htop := top_min hmx (List.mem_of_getElem? hy)
                replace hx := hide hx
                replace hy := hide hy
                replace hmx := hide hmx
                by_cases hxy : y = x
                · have hq1 : (y != x) = false := by rw [hxy]; simp
                  replace htop := hide htop
                  replace hxy := hide hxy
                  go_wp2_with fail
                  go_quiet (fail)
                  go_wp2_with fail
                  go_roundw
                  case rel => exact ⟨p + 1, by go_num, by omega, below_drewN hbr _⟩
                  case measure => simp [intOf]; omega
                · have hq1 : (y != x) = true := by rw [bne_iff_ne]; exact hxy
                  have hq2 : (bits .and .i64 y x == y) = false := by rw [beq_eq_false_iff_ne.2 hxy] at htop; simpa using htop
                  replace htop := hide htop
                  replace hxy := hide hxy
                  go_wp2_with fail
                  go_quiet (fail)
                  go_wp2_with fail
                  go_roundw
                  case rel => exact ⟨p + 1, by go_num, by omega, below_drewN hbr _⟩
                  case measure => simp [intOf]; omega
              · obtain rfl : p = n6 := by omega
                go_wp2_with fail
                go_roundw
                case rel => exact ⟨q + 1, by go_num, by omega, hbr⟩
                case measure => simp [intOf]; omega
          · obtain rfl : q = n8 := by omega
            have hB2 := below_call hB hbr
            have rL2 := hide ((rL.out.below hbr).more hbr.size)
            have rT2 := hide ((rT.out.below hbr).more hbr.size)
            have rM2 := hide ((rM.out.below hbr).more hbr.size)
            clear hbr
            go_wp2_with fail
            refine (drawCells A n c zs _ ((hr.below hB2).more hB2.size) hz.out hnb).mono ?_
            rintro e w9 ⟨x, y, z, rfl, hb1⟩
            obtain ⟨E, hE⟩ : ∃ E, E = eqCB x y z := ⟨_, rfl⟩
            have hE2 : eqCB x z y = E := by rw [hE, eqC_symm]
            replace hE := hide hE
            replace hE2 := hide hE2
            replace rL2 := hide ((rL2.out.below hb1).more hb1.size)
            replace rT2 := hide ((rT2.out.below hb1).more hb1.size)
            replace rM2 := hide ((rM2.out.below hb1).more hb1.size)
            replace hB2 := below_call hB2 hb1
            clear hb1
            go_wp2_with fail
            refine (specMax _ _ _ ls _ rL2.out).mono ?_
            rintro e w10 ⟨A10, n10, c10, rfl, ho7, hb1⟩
            rw [← hT.out] at ho7
            replace rL2 := hide ((rL2.out.below hb1).more hb1.size)
            replace rT2 := hide ((rT2.out.below hb1).more hb1.size)
            replace rM2 := hide ((rM2.out.below hb1).more hb1.size)
            replace hB2 := below_call hB2 hb1
            clear hb1
            go_wp2_with fail
            refine (lawSame1 _ _ _ _ _ _ _ _ rT2.out (Reads.of_own ho7)).mono ?_
            rintro e w11 ⟨rfl, hb1⟩
            clear ho7
            replace rL2 := hide ((rL2.out.below hb1).more hb1.size)
            replace rT2 := hide ((rT2.out.below hb1).more hb1.size)
            replace rM2 := hide ((rM2.out.below hb1).more hb1.size)
            replace hB2 := below_call hB2 hb1
            clear hb1
            go_wp2_with fail
            refine (specMin _ _ _ ls _ rL2.out).mono ?_
            rintro e w10 ⟨A10, n10, c10, rfl, ho7, hb1⟩
            rw [← hM.out] at ho7
            replace rL2 := hide ((rL2.out.below hb1).more hb1.size)
            replace rT2 := hide ((rT2.out.below hb1).more hb1.size)
            replace rM2 := hide ((rM2.out.below hb1).more hb1.size)
            replace hB2 := below_call hB2 hb1
            clear hb1
            go_wp2_with fail
            refine (lawSame1 _ _ _ _ _ _ _ _ rM2.out (Reads.of_own ho7)).mono ?_
            rintro e w11 ⟨rfl, hb1⟩
            clear ho7
            replace rL2 := hide ((rL2.out.below hb1).more hb1.size)
            replace rT2 := hide ((rT2.out.below hb1).more hb1.size)
            replace rM2 := hide ((rM2.out.below hb1).more hb1.size)
            replace hB2 := below_call hB2 hb1
            clear hb1
            go_wp2_with (first | (go_at_call 31; refine (implEqC _ _ _ _).mono ?_; rintro e w12 ⟨rfl, rfl⟩; first | rw [← hE.out] | rw [hE2.out]) | (go_at_call 32; refine (specEqC _ _ _ _).mono ?_; rintro e w12 ⟨rfl, rfl⟩; rw [← hE.out]))
            try simp only [beq_self_eq_true]
            go_ret
            exact ⟨ret_bool (by simp), hB2⟩
end Go.Proofs.Ytkcckfpihpfbnaa.lFnAgrees
