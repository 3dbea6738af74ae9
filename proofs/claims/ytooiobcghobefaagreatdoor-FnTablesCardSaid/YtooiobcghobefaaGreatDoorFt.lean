/-
  Walks of FormatTable, in the program and in the reference.
  Conditions: as each theorem says.
-/
import Derived.Test.YtooiobcghobefaaGreatDoorJoin
import Derived.Test.YtooiobcghobefaaGreatDoorFtP
import Derived.Test.YtooiobcghobefaaGreatDoorItaI
import Derived.Test.YtooiobcghobefaaGreatDoorTab
import Derived.Test.YtooiobcghobefaaGreatDoorIsTab2
namespace Go.Proofs.YtooiobcghobefaaGreatDoor
open Go.RowKit Go.Lib
set_option linter.unusedVariables false

theorem all_natT (M : Nat) (w : World) (h : M ≤ 5) : Calls Tryz.prog 28 #[.int .i64 (M : Int)] w fun e w' => e = .returned (.int .i64 (((2 ^ M : Nat) : Int) - 1)) ∧ w = w' := by
  have := all_any (M : Int) w (by omega)
  rw [show ((M : Int)).toNat = M by simp, show (2 : Int) ^ M = ((2 ^ M : Nat) : Int) by norm_cast] at this
  exact this
theorem kwrap_powT (k : Nat) (hk : k ≤ 5) : IntKind.i64.wrap ((2 : Int) ^ k) = ((2 ^ k : Nat) : Int) := by
  have : k = 0 ∨ k = 1 ∨ k = 2 ∨ k = 3 ∨ k = 4 ∨ k = 5 := by omega
  rcases this with rfl | rfl | rfl | rfl | rfl | rfl <;> decide +kernel
set_option maxRecDepth 100000 in
theorem specCell (v : Int) (w : World) (h : -1 ≤ v ∧ v ≤ 40) : Calls Tryz.prog 29 #[.int .i64 v] w (RetVal w (str (cellW v))) := by
  have hI := hide (fun X => specItoa v X (by omega) (by omega))
  by_cases hv : v = -1
  · have hc := hide (show cellW v = nullL by rw [hv]; rfl)
    have d : (v == -1) = true := by simpa using hv
    clear hv h
    go_enter Tryz.func29, Tryz.ntmps29
    go_wp2_with fail
    go_ret
    exact ⟨by rw [hc.out]; rfl, Below.refl _ _⟩
  · have hc := hide (cellW_num hv)
    have d : (v == -1) = false := by simpa using hv
    clear hv h
    go_enter Tryz.func29, Tryz.ntmps29
    go_wp2_with fail
    refine (hI.out _).mono ?_
    rintro e w1 ⟨rfl, hb⟩
    go_wp2_with fail
    go_ret
    exact ⟨by rw [hc.out]; rfl, hb⟩
set_option maxRecDepth 100000 in
theorem implCell (v : Int) (w : World) (h : -1 ≤ v ∧ v ≤ 40) (ht : Tabs w) : Calls Tryz.prog 23 #[.int .i64 v] w (RetVal w (str (cellW v))) := by
  have hI := hide (implItoa v w (by omega) (by omega) ht)
  replace ht := hide ht
  by_cases hv : v = -1
  · have hc := hide (show cellW v = nullL by rw [hv]; rfl)
    have d : (v == -1) = true := by simpa using hv
    clear hv h
    go_enter Tryz.func23, Tryz.ntmps23
    go_wp2_with fail
    go_ret
    exact ⟨by rw [hc.out]; rfl, Below.refl _ _⟩
  · have hc := hide (cellW_num hv)
    have d : (v == -1) = false := by simpa using hv
    clear hv h
    go_enter Tryz.func23, Tryz.ntmps23
    go_wp2_with fail
    refine hI.out.mono ?_
    rintro e w1 ⟨rfl, hb⟩
    go_wp2_with fail
    go_ret
    exact ⟨by rw [hc.out]; rfl, hb⟩
set_option maxHeartbeats 3200000 in
set_option maxRecDepth 100000 in
theorem specFt (m : Int) (A : Option Addr) (n c : Nat) (zss : List (List Int)) (w : World) (h : RowsAt w w.heap.size A n zss) :
    Calls Tryz.prog 8 #[.agg #[.int .i64 m, .slice A n c]] w (RetVal w (str (ftV m zss))) := by
  rcases hT : isTabB m zss with _ | _
  · have hv := hide (ftV_no hT)
    replace hT := hide hT
    go_enter Tryz.func8, Tryz.ntmps8
    go_wp2_with fail
    obtain ⟨wb, hwb⟩ : ∃ wb, wb = w.alloc (.cells #[.int .i64 m, .slice A n c] 26) := ⟨_, rfl⟩
    have hbx : Below w.heap.size w wb := by rw [hwb]; go_grown
    have h' := h.later hbx
    have k0 : wb.cell? ⟨w.heap.size, 0, none⟩ = some (.int .i64 m) := by rw [hwb, World.cell?_alloc_at _ _ _ _ rfl]; rfl
    have k1 : wb.cell? ⟨w.heap.size, 1, none⟩ = some (.slice A n c) := by rw [hwb, World.cell?_alloc_at _ _ _ _ rfl]; rfl
    have hk : w.heap.size < wb.heap.size := by rw [hwb]; simp
    obtain ⟨tb, htb⟩ : ∃ tb, tb = w.heap.size := ⟨_, rfl⟩
    rw [← htb] at k0 k1 hk
    rw [← hwb, ← htb]
    replace hwb := hide hwb
    replace htb := hide htb
    clear h
    refine (specIsTab _ _ _ _ _ _ h').mono ?_
    rintro e w1 ⟨rfl, hb1⟩
    rw [hT.out]
    go_wp2_with fail
    go_ret
    exact ⟨by rw [hv.out]; rfl, hbx.trans (hb1.mono hbx.size)⟩
  obtain ⟨M, rfl, m1, m5, z40, hrow⟩ := tab_parts hT
  have hv := hide (ftV_yes hT)
  have lz := hide h.1
  have htl := fun i => tabL_len (zss := zss.take i) (m := M) (fun zs hz => hrow zs (List.mem_of_mem_take hz)) m5
  obtain ⟨R, hR⟩ : ∃ R : Int, R = ((2 ^ M : Nat) : Int) := ⟨_, rfl⟩
  have hR32 : 1 ≤ R ∧ R ≤ 32 := by
    have h1 : (2 : Nat) ^ M ≤ 2 ^ 5 := Nat.pow_le_pow_right (by omega) m5
    have h2 : (1 : Nat) ≤ 2 ^ M := Nat.one_le_two_pow
    omega
  have hwR : IntKind.i64.wrap ((2 : Int) ^ M) = R := by rw [hR]; exact kwrap_powT M m5
  obtain ⟨F, hF⟩ : ∃ F, F = fmtA (R - 1) := ⟨_, rfl⟩
  have hFl : F.length ≤ 5 := by rw [hF]; exact fmtA_len _
  obtain ⟨H, hH⟩ : ∃ H, H = headL (M : Int) := ⟨_, rfl⟩
  have hHl : H.length ≤ 6 := by rw [hH]; exact headL_len _
  have hFH : F ++ [10] = H := by rw [hH, hF, hR]; rfl
  have hadd0 : ∀ X : World, (binOp .add 9 (str F) (.string ⟨#[10]⟩)).run Tryz.prog X = .ok (str H) X := fun X => by rw [← hFH]; exact str_add (P := Tryz.prog) 9 F [10] (by rw [List.length_cons, List.length_nil]; omega) X
  have hall := hide (fun X => all_natT M X m5)
  have hwR2 : IntKind.i64.wrap (R - 1) = R - 1 := IntWalk.i64_in _ (by omega)
  replace hT := hide hT
  replace hrow := hide hrow
  replace htl := hide htl
  replace hF := hide hF
  replace hH := hide hH
  replace hFH := hide hFH
  have hn40 : n ≤ 40 := by rw [← lz.out]; exact z40
  clear z40
  rw [← hR] at hall
  replace hR := hide hR
  go_enter Tryz.func8, Tryz.ntmps8
  go_wp2_with fail
  obtain ⟨wb, hwb⟩ : ∃ wb, wb = w.alloc (.cells #[.int .i64 (M : Int), .slice A n c] 26) := ⟨_, rfl⟩
  have hbx : Below w.heap.size w wb := by rw [hwb]; go_grown
  have h' := h.later hbx
  have k0 : wb.cell? ⟨w.heap.size, 0, none⟩ = some (.int .i64 (M : Int)) := by rw [hwb, World.cell?_alloc_at _ _ _ _ rfl]; rfl
  have k1 : wb.cell? ⟨w.heap.size, 1, none⟩ = some (.slice A n c) := by rw [hwb, World.cell?_alloc_at _ _ _ _ rfl]; rfl
  have hk : w.heap.size < wb.heap.size := by rw [hwb]; simp
  obtain ⟨tb, htb⟩ : ∃ tb, tb = w.heap.size := ⟨_, rfl⟩
  rw [← htb] at k0 k1 hk
  rw [← hwb, ← htb]
  replace hwb := hide hwb
  replace htb := hide htb
  clear h
  refine (specIsTab _ _ _ _ _ _ h').mono ?_
  rintro e w1 ⟨rfl, hb1⟩
  rw [hT.out]
  have hb := hbx.trans (hb1.mono hbx.size)
  replace h' := h'.later hb1
  replace k0 := cell_below hb1 k0 hk
  replace k1 := cell_below hb1 k1 hk
  replace hk := Nat.lt_of_lt_of_le hk hb1.size
  clear hb1 hbx
  go_wp2_with (first
    | (go_at_call 28; refine (hall.out _).mono ?_; rintro e w2 ⟨rfl, rfl⟩)
    | (go_at_call 27; refine (specFmt _ _).mono ?_; rintro e w2 ⟨rfl, rfl⟩; rw [← hF.out]))
  go_loopw [3, 4, 5] (fun s i _ wr => ∃ k : Nat, i = .int .i64 (k : Int) ∧ k ≤ n ∧ s = str (H ++ tabL (zss.take k)) ∧ Below w1.heap.size w1 wr) (fun _ i _ _ => n - (RowKit.intOf i).toNat)
  case atStart => exact ⟨0, rfl, by omega, by rw [List.take_zero]; simp [tabL], Below.refl _ _⟩
  case round =>
    obtain ⟨i, rfl, hi, rfl, hbr⟩ := hrel
    have r1 := cell_below hbr k1 hk
    by_cases hlt : i < n
    · obtain ⟨b, o, zs, A', c', rfl, hbb, hz1, hc1, hr⟩ := at_row (h'.later hbr) hlt
      obtain ⟨hzl, hcells⟩ := hrow.out zs (List.mem_of_getElem? hz1)
      have htli := htl.out i
      have htki : (zss.take i).length ≤ 40 := by rw [List.length_take]; omega
      have hnext := hide (tabL_succ hz1)
      obtain ⟨P, hP⟩ : ∃ P, P = H ++ tabL (zss.take i) := ⟨_, rfl⟩
      have hPl : P.length ≤ 100000 := by rw [hP, List.length_append]; omega
      have hz1' := hide hz1
      have hstart := hide (show str P = str (P ++ rowW (zs.take 0)) by rw [List.take_zero, rowW_nil, List.append_nil])
      rw [← hP]
      replace hP := hide hP
      replace hcells := hide hcells
      replace h' := hide h'
      clear hr hz1 htli htki
      go_wp2_with fail
      go_loopw [3, 5] (fun s j wq => ∃ k : Nat, j = .int .i64 (k : Int) ∧ k ≤ zs.length ∧ s = str (P ++ rowW (zs.take k)) ∧ Below w1.heap.size w1 wq) (fun _ j _ => zs.length - (RowKit.intOf j).toNat)
      case atStart => exact ⟨0, rfl, by omega, hstart.out, hbr⟩
      case round =>
        clear hc1 r1
        obtain ⟨k, rfl, hk2, rfl, hbq⟩ := hrel
        have r1 := cell_below hbq k1 hk
        obtain ⟨b2, o2, zs2, A2, c2, hA, hbb2, hz2, hc2, hr2⟩ := at_row (h'.out.later hbq) hlt
        cases hA
        obtain rfl : zs = zs2 := Option.some.inj (hz1'.out.symm.trans hz2)
        replace hz2 := hide hz2
        have hrl := rowW_len (zs := zs.take k) (fun y hy => hcells.out y (List.mem_of_mem_take hy))
        have htk : (zs.take k).length ≤ 5 := by rw [List.length_take]; omega
        obtain ⟨S, hS⟩ : ∃ S, S = P ++ rowW (zs.take k) := ⟨_, rfl⟩
        have hSl : S.length ≤ 200000 := by rw [hS, List.length_append]; omega
        by_cases hkl : k < zs.length
        · obtain ⟨b3, o3, z, rfl, hbb3, hz3, hc3⟩ := at_int hr2 hkl
          have hzf := hcells.out z (List.mem_of_getElem? hz3)
          have hil := cellW_len hzf
          have hI := hide (fun X => specCell z X hzf)
          clear hzf hr2
          rcases Nat.eq_zero_or_pos k with hk0 | hk0
          · have hst := hide (show str (S ++ cellW z) = str (P ++ rowW (zs.take (k + 1))) by rw [hS, rowW_zero hz3 hk0, List.append_assoc])
            have d1 : decide ((0 : Int) < (k : Int)) = false := by simp; omega
            have d1' : decide (0 < k) = false := by simp; omega
            have hadd2 : ∀ X : World, (binOp .add 9 (str S) (str (cellW z))).run Tryz.prog X = .ok (str (S ++ cellW z)) X := fun X => str_add (P := Tryz.prog) 9 S (cellW z) (by omega) X
            rw [← hS]
            replace hS := hide hS
            replace hz3 := hide hz3
            replace hk0 := hide hk0
            go_wp2_with fail
            refine (hI.out _).mono ?_
            rintro e w4 ⟨rfl, hb4⟩
            replace hbq := below_call hbq hb4
            clear hb4
            go_wp2_with fail
            go_roundw
            case rel => exact ⟨k + 1, by go_num, by omega, hst.out, hbq⟩
            case measure => simp [RowKit.intOf]; omega
          · have hst := hide (show str (S ++ 32 :: cellW z) = str (P ++ rowW (zs.take (k + 1))) by rw [hS, rowW_step hz3 hk0]; simp)
            have d1 : decide ((0 : Int) < (k : Int)) = true := by simp; omega
            have d1' : decide (0 < k) = true := by simp; omega
            have hadd1 : ∀ X : World, (binOp .add 9 (str S) (.string ⟨#[32]⟩)).run Tryz.prog X = .ok (str (S ++ [32])) X := fun X => str_add (P := Tryz.prog) 9 S [32] (by simp; omega) X
            have hadd2 : ∀ X : World, (binOp .add 9 (str (S ++ [32])) (str (cellW z))).run Tryz.prog X = .ok (str ((S ++ [32]) ++ cellW z)) X := fun X => str_add (P := Tryz.prog) 9 (S ++ [32]) (cellW z) (by rw [List.length_append, List.length_cons, List.length_nil]; omega) X
            rw [← hS]
            replace hS := hide hS
            replace hz3 := hide hz3
            go_wp2_with fail
            refine (hI.out _).mono ?_
            rintro e w4 ⟨rfl, hb4⟩
            replace hbq := below_call hbq hb4
            clear hb4
            go_wp2_with fail
            go_roundw
            case rel => exact ⟨k + 1, by go_num, by omega, hst.out, hbq⟩
            case measure => simp [RowKit.intOf]; omega
        · obtain rfl : k = zs.length := by omega
          rw [List.take_length] at hS hrl
          have hst := hide (show str (S ++ [10]) = str (H ++ tabL (zss.take (i + 1))) by rw [hS, hP.out, hnext.out]; simp)
          have hadd3 : ∀ X : World, (binOp .add 9 (str S) (.string ⟨#[10]⟩)).run Tryz.prog X = .ok (str (S ++ [10])) X := fun X => str_add (P := Tryz.prog) 9 S [10] (by simp; omega) X
          rw [List.take_length, ← hS]
          replace hS := hide hS
          clear hr2
          go_wp2_with fail
          go_roundw
          case rel => exact ⟨i + 1, by go_num, by omega, hst.out, hbq⟩
          case measure => simp [RowKit.intOf]; omega
    · obtain rfl : i = n := by omega
      have hTk : zss.take i = zss := List.take_of_length_le (by rw [lz.out]; exact Nat.le_refl _)
      rw [hTk]
      replace hTk := hide hTk
      replace h' := hide h'
      have hfin := hide (show str (ftV (M : Int) zss) = str (H ++ tabL zss) by rw [hv.out, ← hH.out])
      go_wp2_with fail
      go_ret
      exact ⟨by rw [hfin.out]; rfl, hb.trans (hbr.mono hb.size)⟩
set_option maxHeartbeats 3200000 in
set_option maxRecDepth 100000 in
theorem implFt (m : Int) (A : Option Addr) (n c : Nat) (zss : List (List Int)) (w : World) (h : RowsAt w w.heap.size A n zss) (ht : Tabs w) :
    Calls Tryz.prog 6 #[.agg #[.int .i64 m, .slice A n c]] w (RetVal w (str (ftV m zss))) := by
  replace ht := hide ht
  rcases hT : isTabB m zss with _ | _
  · have hv := hide (ftV_no hT)
    replace hT := hide hT
    go_enter Tryz.func6, Tryz.ntmps6
    go_wp2_with fail
    obtain ⟨wb, hwb⟩ : ∃ wb, wb = w.alloc (.cells #[.int .i64 m, .slice A n c] 26) := ⟨_, rfl⟩
    have hbx : Below w.heap.size w wb := by rw [hwb]; go_grown
    have h' := h.later hbx
    have k0 : wb.cell? ⟨w.heap.size, 0, none⟩ = some (.int .i64 m) := by rw [hwb, World.cell?_alloc_at _ _ _ _ rfl]; rfl
    have k1 : wb.cell? ⟨w.heap.size, 1, none⟩ = some (.slice A n c) := by rw [hwb, World.cell?_alloc_at _ _ _ _ rfl]; rfl
    have hk : w.heap.size < wb.heap.size := by rw [hwb]; simp
    obtain ⟨tb, htb⟩ : ∃ tb, tb = w.heap.size := ⟨_, rfl⟩
    rw [← htb] at k0 k1 hk
    rw [← hwb, ← htb]
    replace hwb := hide hwb
    replace htb := hide htb
    clear h
    refine (implIsTab _ _ _ _ _ _ h').mono ?_
    rintro e w1 ⟨rfl, hb1⟩
    rw [hT.out]
    go_wp2_with fail
    go_ret
    exact ⟨by rw [hv.out]; rfl, hbx.trans (hb1.mono hbx.size)⟩
  obtain ⟨M, rfl, m1, m5, z40, hrow⟩ := tab_parts hT
  have hv := hide (ftV_yes hT)
  have lz := hide h.1
  have htl := fun i => tabL_len (zss := zss.take i) (m := M) (fun zs hz => hrow zs (List.mem_of_mem_take hz)) m5
  obtain ⟨R, hR⟩ : ∃ R : Int, R = ((2 ^ M : Nat) : Int) := ⟨_, rfl⟩
  have hR32 : 1 ≤ R ∧ R ≤ 32 := by
    have h1 : (2 : Nat) ^ M ≤ 2 ^ 5 := Nat.pow_le_pow_right (by omega) m5
    have h2 : (1 : Nat) ≤ 2 ^ M := Nat.one_le_two_pow
    omega
  have hwR : IntKind.i64.wrap ((2 : Int) ^ M) = R := by rw [hR]; exact kwrap_powT M m5
  obtain ⟨F, hF⟩ : ∃ F, F = fmtA (R - 1) := ⟨_, rfl⟩
  have hFl : F.length ≤ 5 := by rw [hF]; exact fmtA_len _
  obtain ⟨H, hH⟩ : ∃ H, H = headL (M : Int) := ⟨_, rfl⟩
  have hHl : H.length ≤ 6 := by rw [hH]; exact headL_len _
  have hFH : F ++ [10] = H := by rw [hH, hF, hR]; rfl
  have hadd0 : ∀ X : World, (binOp .add 9 (str F) (.string ⟨#[10]⟩)).run Tryz.prog X = .ok (str H) X := fun X => by rw [← hFH]; exact str_add (P := Tryz.prog) 9 F [10] (by rw [List.length_cons, List.length_nil]; omega) X
  have hall := hide (fun X => all_natT M X m5)
  have hwR2 : IntKind.i64.wrap (R - 1) = R - 1 := IntWalk.i64_in _ (by omega)
  replace hT := hide hT
  replace hrow := hide hrow
  replace htl := hide htl
  replace hF := hide hF
  replace hH := hide hH
  replace hFH := hide hFH
  have hn40 : n ≤ 40 := by rw [← lz.out]; exact z40
  clear z40
  replace hall := hide hall
  replace hR := hide hR
  go_enter Tryz.func6, Tryz.ntmps6
  go_wp2_with fail
  obtain ⟨wb, hwb⟩ : ∃ wb, wb = w.alloc (.cells #[.int .i64 (M : Int), .slice A n c] 26) := ⟨_, rfl⟩
  have hbx : Below w.heap.size w wb := by rw [hwb]; go_grown
  have h' := h.later hbx
  have k0 : wb.cell? ⟨w.heap.size, 0, none⟩ = some (.int .i64 (M : Int)) := by rw [hwb, World.cell?_alloc_at _ _ _ _ rfl]; rfl
  have k1 : wb.cell? ⟨w.heap.size, 1, none⟩ = some (.slice A n c) := by rw [hwb, World.cell?_alloc_at _ _ _ _ rfl]; rfl
  have hk : w.heap.size < wb.heap.size := by rw [hwb]; simp
  obtain ⟨tb, htb⟩ : ∃ tb, tb = w.heap.size := ⟨_, rfl⟩
  rw [← htb] at k0 k1 hk
  rw [← hwb, ← htb]
  replace hwb := hide hwb
  replace htb := hide htb
  clear h
  refine (implIsTab _ _ _ _ _ _ h').mono ?_
  rintro e w1 ⟨rfl, hb1⟩
  rw [hT.out]
  have hb := hbx.trans (hb1.mono hbx.size)
  replace h' := h'.later hb1
  replace k0 := cell_below hb1 k0 hk
  replace k1 := cell_below hb1 k1 hk
  replace hk := Nat.lt_of_lt_of_le hk hb1.size
  clear hb1 hbx
  go_wp2_with (go_at_call 22; refine (implFmt _ _).mono ?_; rintro e w2 ⟨rfl, hb2⟩; rw [← hF.out]; replace k1 := cell_below hb2 k1 hk)
  replace hk := Nat.lt_of_lt_of_le hk hb2.size
  replace h' := h'.later hb2
  replace hb := hb.trans (hb2.mono hb.size)
  clear hb2 k0
  go_loopw [3, 21] (fun s i wr => ∃ k : Nat, i = .int .i64 (k : Int) ∧ k ≤ n ∧ s = str (H ++ tabL (zss.take k)) ∧ Below w2.heap.size w2 wr) (fun _ i _ => n - (RowKit.intOf i).toNat)
  case atStart => exact ⟨0, rfl, by omega, by rw [List.take_zero]; simp [tabL], Below.refl _ _⟩
  case round =>
    obtain ⟨i, rfl, hi, rfl, hbr⟩ := hrel
    obtain ⟨wo, hwo0⟩ : ∃ wo : World, wo = wr := ⟨_, rfl⟩
    subst hwo0
    by_cases hlt : i < n
    · obtain ⟨b, o, zs, A', c', rfl, hbb, hz1, hc1, hr⟩ := at_row (h'.later hbr) hlt
      obtain ⟨hzl, hcells⟩ := hrow.out zs (List.mem_of_getElem? hz1)
      have htli := htl.out i
      have htki : (zss.take i).length ≤ 40 := by rw [List.length_take]; omega
      have hrl := rowW_len hcells
      obtain ⟨S, hS⟩ : ∃ S, S = H ++ tabL (zss.take i) := ⟨_, rfl⟩
      have hSl : S.length ≤ 100000 := by rw [hS, List.length_append]; omega
      have hst := hide (show str (S ++ (rowW zs ++ [10])) = str (H ++ tabL (zss.take (i + 1))) by rw [hS, tabL_succ hz1, List.append_assoc])
      have hadd1 : ∀ X : World, (binOp .add 9 (str (rowW zs)) (.string ⟨#[10]⟩)).run Tryz.prog X = .ok (str (rowW zs ++ [10])) X := fun X => str_add (P := Tryz.prog) 9 (rowW zs) [10] (by simp; omega) X
      have hadd2 : ∀ X : World, (binOp .add 9 (str S) (str (rowW zs ++ [10]))).run Tryz.prog X = .ok (str (S ++ (rowW zs ++ [10]))) X := fun X => str_add (P := Tryz.prog) 9 S (rowW zs ++ [10]) (by rw [List.length_append, List.length_cons, List.length_nil]; omega) X
      rw [← hS]
      replace hS := hide hS
      have hcl := hide hcells
      have hown0 := own_start wo 9
      have hal : Below wo.heap.size wo (wo.alloc (.cells #[] 9)) := (Below.refl _ _).alloc (Nat.le_refl _) _
      replace h' := hide h'
      replace hz1 := hide hz1
      clear hcells htli htki
      go_wp2_with fail
      go_loopw [6, 28] (fun s j wq => ∃ (k N c' : Nat) (A' : Option Addr), j = .int .i64 (k : Int) ∧ k ≤ zs.length ∧ s = .slice A' N c' ∧ wq.ownsRow wo.heap.size 9 1 (.slice A' N c') N (((zs.take k).map cellW).map str) ∧ Below wo.heap.size wo wq) (fun _ j _ => zs.length - (RowKit.intOf j).toNat)
      case atStart => exact ⟨0, 0, 0, _, rfl, by omega, rfl, hown0, hal⟩
      case round =>
        clear hown0 hal
        obtain ⟨k, N3, c3, A3, rfl, hk3, rfl, hwo, hbq⟩ := hrel
        have hN3 : N3 ≤ zs.length := by have := own_len hwo; rw [List.length_map, List.length_map, List.length_take] at this; omega
        by_cases hkl : k < zs.length
        · obtain ⟨b3, o3, z, rfl, hbb3, hz3, hc3⟩ := at_int (hr.below hbq) hkl
          have hzf := hcl.out z (List.mem_of_getElem? hz3)
          have hI := hide (fun X hX => implCell z X hzf hX)
          have hstep := hide (show ((zs.take k).map cellW).map str ++ [.string ⟨(cellW z).toArray⟩] = ((zs.take (k + 1)).map cellW).map str by rw [← str_def, List.take_add_one, hz3]; simp)
          clear hzf
          replace hz3 := hide hz3
          replace hwo := hide hwo
          go_wp2_with fail
          refine (hI.out _ (((ht.out.below hb).below hbr).below hbq)).mono ?_
          rintro e w4 ⟨rfl, hb4⟩
          rw [str_def (cellW z)]
          have hwo2 := own_below hwo.out hb4
          have hbq2 := below_call hbq hb4
          have hs4 := hbq2.size
          clear hb4
          go_wp2_with (at_builtin; refine wpList_push elemStrJ rfl (.tmp 32) (.tmp 35) w4 (.string ⟨(cellW z).toArray⟩) rfl wo.heap.size (.slice A3 N3 c3) N3 _ rfl rfl hwo2 rfl (by omega) hs4 ?_; intro A5 c5 w5 hown5 hg5 hat5; have hbq5 := below_push hbq2 hs4 hwo2 hg5; rw [hstep.out] at hown5; clear hg5 hat5 hwo2 hbq2)
          go_roundw
          case rel => exact ⟨k + 1, N3 + 1, c5, A5, by go_num, by omega, rfl, hown5, hbq5⟩
          case measure => simp [RowKit.intOf]; omega
        · obtain rfl : k = zs.length := by omega
          rw [List.take_length] at hwo
          have hJ := hide (fun X hX => libJoin A3 N3 c3 wo.heap.size (zs.map cellW) [32] X hX (by show (rowW zs).length ≤ _; omega) (by omega))
          have hbb2 := below_call hbr hbq
          replace hwo := hide hwo
          clear hr
          go_wp2_with fail
          refine (hJ.out _ hwo.out).mono ?_
          rintro e w4 ⟨rfl, hb4⟩
          rw [show Lib.join (zs.map cellW) [32] = rowW zs from rfl]
          replace hbb2 := below_call hbb2 hb4
          clear hb4
          go_wp2_with fail
          go_roundw
          case rel => exact ⟨i + 1, by go_num, by omega, hst.out, hbb2⟩
          case measure => simp [RowKit.intOf]; omega
    · obtain rfl : i = n := by omega
      have hTk : zss.take i = zss := List.take_of_length_le (by rw [lz.out]; exact Nat.le_refl _)
      rw [hTk]
      replace hTk := hide hTk
      replace h' := hide h'
      have hfin := hide (show str (ftV (M : Int) zss) = str (H ++ tabL zss) by rw [hv.out, ← hH.out])
      go_wp2_with fail
      go_ret
      exact ⟨by rw [hfin.out]; rfl, hb.trans (hbr.mono hb.size)⟩
end Go.Proofs.YtooiobcghobefaaGreatDoor
