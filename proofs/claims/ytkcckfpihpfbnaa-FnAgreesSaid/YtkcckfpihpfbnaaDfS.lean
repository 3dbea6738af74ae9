/-
  DifferenceSets of the reference and of the program.
  Conditions: as each theorem says.
-/
import Derived.Test.YtkcckfpihpfbnaaAgI
import Derived.Test.YtkcckfpihpfbnaaWit
import Derived.Test.YtkcckfpihpfbnaaCol
namespace Go.Proofs.Ytkcckfpihpfbnaa
open Go.RowKit
set_option linter.unusedVariables false

theorem wrap_pow5 (k : Nat) (hk : k ≤ 5) : wrap64 ((2 : Int) ^ k) = ((2 ^ k : Nat) : Int) := by
  have : k = 0 ∨ k = 1 ∨ k = 2 ∨ k = 3 ∨ k = 4 ∨ k = 5 := by omega
  rcases this with rfl | rfl | rfl | rfl | rfl | rfl <;> decide +kernel
theorem kwrap_pow5 (k : Nat) (hk : k ≤ 5) : IntKind.i64.wrap ((2 : Int) ^ k) = ((2 ^ k : Nat) : Int) := by
  have : k = 0 ∨ k = 1 ∨ k = 2 ∨ k = 3 ∨ k = 4 ∨ k = 5 := by omega
  rcases this with rfl | rfl | rfl | rfl | rfl | rfl <;> decide +kernel
/-- What is left of x without the column j. -/
def dfE (M j : Nat) (x : Int) : Int := bits .andNot .i64 (bits .andNot .i64 (((2 ^ M : Nat) : Int) - 1) x) ((2 ^ j : Nat) : Int)
def dfF (M j : Nat) (xs : List Int) : List Int := (xs.filter fun x => !hasB x j).map (dfE M j)
/-- What DifferenceSets answers. -/
def dfsL (m : Int) (zss : List (List Int)) (mode col : Int) : List Int := if (decide (0 ≤ col) && decide (col ≤ m - 1)) then distL (dfF m.toNat col.toNat (agsL m zss mode)) else []
theorem distL_nil : distL [] = [] := by simp [distL, Lib.compact, Lib.compactUpTo]
theorem dfsL_len (m : Int) (zss : List (List Int)) (mode col : Int) : (dfsL m zss mode col).length ≤ 32 := by
  unfold dfsL
  split
  · have h1 := distL_len (dfF m.toNat col.toNat (agsL m zss mode))
    have h2 := agsL_len m zss mode
    have h3 := List.length_filter_le (fun x => !hasB x col.toNat) (agsL m zss mode)
    unfold dfF at h1
    rw [List.length_map] at h1
    unfold dfF
    omega
  · simp
theorem dfF_yes {M j k : Nat} {xs : List Int} {x : Int} (h : xs[k]? = some x) (hb : hasB x j = false) : dfF M j (xs.take (k + 1)) = dfF M j (xs.take k) ++ [dfE M j x] := by
  unfold dfF
  rw [List.take_add_one, h, List.filter_append, List.map_append]
  simp [hb]
theorem dfF_no {M j k : Nat} {xs : List Int} {x : Int} (h : xs[k]? = some x) (hb : hasB x j = true) : dfF M j (xs.take (k + 1)) = dfF M j (xs.take k) := by
  unfold dfF
  rw [List.take_add_one, h, List.filter_append, List.map_append]
  simp [hb]
theorem dfF_len (M j : Nat) (xs : List Int) : (dfF M j xs).length ≤ xs.length := by
  unfold dfF; rw [List.length_map]; exact List.length_filter_le _ _
/-- What the reference's list holds behind k rounds. -/
def DfInv (L : List Int) (ys : List Int) : Prop := SS ys ∧ (∀ z, z ∈ ys ↔ z ∈ L) ∧ ys.length ≤ L.length
theorem DfInv.put {L ys ys' : List Int} {x : Int} (h : DfInv L ys) (hp : PutP ys x ys') : DfInv (L ++ [x]) ys' := by
  obtain ⟨h1, h2⟩ := hp.1 h.1
  refine ⟨h1, fun z => (h2 z).trans ?_, ?_⟩
  · rw [h.2.1, List.mem_append, List.mem_singleton]
  · have := hp.2; have := h.2.2; rw [List.length_append]; simp; omega
theorem DfInv.done {L ys : List Int} (h : DfInv L ys) : ys = distL L := SS.uniq h.1 (distL_ok L).1 fun z => (h.2.1 z).trans ((distL_ok L).2 z).symm
theorem all_nat (M : Nat) (w : World) (h : M ≤ 5) : Calls Try.prog 84 #[.int .i64 (M : Int)] w fun e w' => e = .returned (.int .i64 (((2 ^ M : Nat) : Int) - 1)) ∧ w = w' := by
  have := all_any (M : Int) w (by omega)
  rw [show ((M : Int)).toNat = M by simp, show (2 : Int) ^ M = ((2 ^ M : Nat) : Int) by norm_cast] at this
  exact this
set_option maxHeartbeats 3200000 in
set_option maxRecDepth 100000 in
theorem specDfS (m : Int) (A : Option Addr) (n c : Nat) (zss : List (List Int)) (mode col : Int) (w : World) (h : RowsAt w w.heap.size A n zss) :
    Calls Try.prog 21 #[.agg #[.int .i64 m, .slice A n c], .int .i64 mode, .int .i64 col] w (RetRow 3 w ((dfsL m zss mode col).map (Value.int .i64))) := by
  have hal := agsL_low (m := m) (zss := zss) (mode := mode)
  have hlen := agsL_len m zss mode
  have hm5 : agsL m zss mode ≠ [] → 1 ≤ m ∧ m ≤ 5 := by
    intro hne
    unfold agsL at hne
    split at hne
    · rename_i hG
      unfold agsG at hG
      rw [Bool.and_eq_true] at hG
      exact ⟨(isTabB_m hG.1).1, (isTabB_m hG.1).2.1⟩
    · exact absurd rfl hne
  obtain ⟨D, hD⟩ : ∃ D, D = dfsL m zss mode col := ⟨_, rfl⟩
  have hD2 := hD
  unfold dfsL at hD2
  obtain ⟨L, hL⟩ : ∃ L, L = agsL m zss mode := ⟨_, rfl⟩
  rw [← hL] at hal hlen hm5 hD2
  rw [← hD]
  clear hD
  replace hL := hide hL
  replace hD2 := hide hD2
  replace hm5 := hide hm5
  replace hal := hide hal.2
  go_enter Try.func21, Try.ntmps21
  go_wp2_with fail
  obtain ⟨wb, hwb⟩ : ∃ wb, wb = w.alloc (.cells #[.int .i64 m, .slice A n c] 26) := ⟨_, rfl⟩
  have hwz : wb.heap.size = w.heap.size + 1 := by rw [hwb]; simp
  have hbx : Below w.heap.size w wb := by rw [hwb]; go_grown
  have hst := own_start wb 3
  obtain ⟨wc, hwc⟩ : ∃ wc, wc = wb.alloc (.cells #[] 3) := ⟨_, rfl⟩
  have hbc : Below wb.heap.size wb wc := by rw [hwc]; go_grown
  have h' := h.later hbx
  have k0 : wb.cell? ⟨w.heap.size, 0, none⟩ = some (.int .i64 m) := by rw [hwb, World.cell?_alloc_at _ _ _ _ rfl]; rfl
  have k1 : wb.cell? ⟨w.heap.size, 1, none⟩ = some (.slice A n c) := by rw [hwb, World.cell?_alloc_at _ _ _ _ rfl]; rfl
  rw [← hwc] at hst
  rw [← hwb, ← hwc]
  have hst' : wc.ownsRow wb.heap.size 3 1 (.slice (some ⟨w.heap.size + 1, 0, none⟩) 0 0) 0 (([] : List Int).map (Value.int .i64)) := by rw [← hwz]; exact hst
  have hk : w.heap.size < wb.heap.size := by omega
  clear hwb hwc h hst hwz
  refine (specAgS _ _ _ _ _ _ _ (h'.later hbc)).mono ?_
  rintro e w1 ⟨A1, a1, c1, rfl, hoA, hb1⟩
  rw [← hL.out] at hoA
  have hla : a1 = L.length := by have := own_len hoA; simpa using this.symm
  have rA := Reads.of_own hoA
  replace hst' := own_below hst' hb1
  replace hbc := hbc.trans (hb1.mono hbc.size)
  clear hb1 hoA
  have ha32 : a1 ≤ 32 := by omega
  rcases Nat.eq_zero_or_pos a1 with h0 | h0
  · subst h0
    have hDn := hide (show D = [] by
      rw [hD2.out, List.length_eq_zero_iff.1 hla.symm]
      split
      · exact distL_nil
      · rfl)
    replace hla := hide hla
    go_wp2_with fail
    refine wp_loop_rounds 1 ?_
    rw [rounds_succ]
    go_wp2_with fail
    go_ret
    exact ⟨_, 0, 0, rfl, by rw [hDn.out]; exact own_more hst' (by omega), hbx.trans (hbc.mono hbx.size)⟩
  obtain ⟨m1, m5⟩ := hm5.out (fun e => by rw [e] at hla; simp at hla; omega)
  obtain ⟨M, rfl⟩ : ∃ M : Nat, m = M := ⟨m.toNat, by omega⟩
  replace hla := hide hla
  have hw1 : IntKind.i64.wrap ((M : Int) - 1) = (M : Int) - 1 := IntWalk.i64_in _ (by omega)
  replace hw1 := hide hw1
  have d0 : decide ((0 : Int) < (a1 : Int)) = true := by simp; omega
  have d0' : decide (0 < a1) = true := by simp; omega
  rcases hin : (decide (0 ≤ col) && decide (col ≤ (M : Int) - 1)) with _ | _
  · have hDn := hide (show D = [] by rw [hD2.out, hin]; rfl)
    replace hin := hide hin
    have k0' := cell_below hbc k0 hk
    go_wp2_with fail
    refine wp_loop_rounds 1 ?_
    rw [rounds_succ]
    go_wp2_with (go_at_call 83; refine (l1in _ _ _ false _ hin.out).mono ?_; rintro e w2 ⟨rfl, rfl⟩)
    go_ret
    exact ⟨_, 0, 0, rfl, by rw [hDn.out]; exact own_more hst' (by omega), hbx.trans (hbc.mono hbx.size)⟩
  have hin2 : 0 ≤ col ∧ col ≤ (M : Int) - 1 := by simpa using hin
  obtain ⟨j, rfl⟩ : ∃ j : Nat, col = j := ⟨col.toNat, by omega⟩
  have hDn := hide (show D = distL (dfF M j L) by rw [hD2.out, hin]; rfl)
  replace hin := hide hin
  have hj5 : j < 5 := by omega
  have hM5 : M ≤ 5 := by omega
  obtain ⟨P, hP⟩ : ∃ P : Int, P = ((2 ^ j : Nat) : Int) := ⟨_, rfl⟩
  have hwP : IntKind.i64.wrap ((2 : Int) ^ j) = P := by rw [hP]; exact kwrap_pow5 j (by omega)
  obtain ⟨F, hF⟩ : ∃ F : Int, F = ((2 ^ M : Nat) : Int) - 1 := ⟨_, rfl⟩
  have hE : ∀ x : Int, bits .andNot .i64 (bits .andNot .i64 F x) P = dfE M j x := fun x => by unfold dfE; rw [hF, hP]
  replace hE := hide hE
  have hall := fun W => all_nat M W hM5
  rw [← hF] at hall
  replace hall := hide hall
  replace hF := hide hF
  replace hP := hide hP
  clear d0 d0' hin2
  go_wp2_with fail
  go_loopw [7, 9] (fun out i wr => ∃ (k N d : Nat) (A' : Option Addr) (ys : List Int), k ≤ a1 ∧ i = .int .i64 (k : Int) ∧ out = .slice A' N d ∧ wr.ownsRow wb.heap.size 3 1 (.slice A' N d) N (ys.map (Value.int .i64)) ∧ Below w1.heap.size w1 wr ∧ DfInv (dfF M j (L.take k)) ys) (fun _ i _ => a1 - (intOf i).toNat)
  case atStart => exact ⟨0, 0, 0, _, [], by omega, rfl, rfl, hst', Below.refl _ _, List.Pairwise.nil, (fun z => by simp [dfF]), by simp [dfF]⟩
  case round =>
    clear hst'
    obtain ⟨k, N, d, A', ys, hkn, rfl, rfl, hown, hb, hinv⟩ := hrel
    have hbb := hbc.trans (hb.mono hbc.size)
    have k0' := cell_below hbb k0 hk
    have k1' := cell_below hbb k1 hk
    by_cases hlt : k < a1
    · obtain ⟨b, o, x, rfl, hbx2, hx, hc⟩ := at_int (rA.below hb) hlt
      have hx31 := hal.out x (List.mem_of_getElem? hx)
      obtain ⟨xn, rfl⟩ : ∃ xn : Nat, x = xn := ⟨x.toNat, by omega⟩
      have t1 := no_has xn j (by omega) hj5
      have hN : N ≤ 32 := by
        have h1 := own_len hown
        have h2 := hinv.2.2
        have h3 := dfF_len M j (L.take k)
        rw [List.length_map] at h1
        rw [List.length_take] at h3
        omega
      rcases hh : hasB (xn : Int) j with _ | _
      · rw [hh] at t1
        have hstep := hide (dfF_yes (M := M) hx hh)
        have hnext : ∀ ys', PutP ys (dfE M j (xn : Int)) ys' → DfInv (dfF M j (L.take (k + 1))) ys' := fun ys' hp => by rw [hstep.out]; exact hinv.put hp
        replace hnext := hide hnext
        replace hinv := hide hinv
        replace hh := hide hh
        replace hx := hide hx
        go_wp2_with (go_at_call 83; refine (l1in _ _ _ true _ hin.out).mono ?_; rintro e w2 ⟨rfl, rfl⟩)
        go_region_law (first
          | (go_simp; go_at_call 84; refine (hall.out _).mono ?_; rintro e w2 ⟨rfl, rfl⟩)
          | (go_simp; go_at_call 81; refine (l4put wb.heap.size A' N d ys _ _ (by exact hown.drew) (by omega) (by exact hbb.size)).mono ?_; rintro e w3 ⟨A4, N4, c4, ys4, hp4, rfl, ho4, hb1⟩))
        all_goals
          rw [hE.out] at hp4
          have hnext2 := hide (hnext.out _ hp4)
          replace hp4 := hide hp4
          replace hb : Below w1.heap.size w1 w3 := hb.trans ((show Below w1.heap.size wr w3 from ⟨hb1.os, hb1.tape, hb1.output, hb1.size, fun q hq => hb1.block q (Nat.lt_of_lt_of_le hq hb.size)⟩))
          go_wp2_with fail
          go_roundw
          case rel => exact ⟨k + 1, N4, c4, A4, ys4, by omega, by go_num, rfl, ho4, hb, hnext2.out⟩
          case measure => simp [intOf]; omega
      · rw [hh] at t1
        have hstep := hide (dfF_no (M := M) hx hh)
        have hnext := hide (show DfInv (dfF M j (L.take (k + 1))) ys by rw [hstep.out]; exact hinv)
        replace hinv := hide hinv
        replace hh := hide hh
        replace hx := hide hx
        go_wp2_with (go_at_call 83; refine (l1in _ _ _ true _ hin.out).mono ?_; rintro e w2 ⟨rfl, rfl⟩)
        go_roundw
        case rel => exact ⟨k + 1, N, d, A', ys, by omega, by go_num, rfl, hown, hb, hnext.out⟩
        case measure => simp [intOf]; omega
    · obtain rfl : k = a1 := by omega
      have hys := hide (show ys = D by have h1 := hinv.done; rw [hla.out, List.take_length] at h1; rw [hDn.out]; exact h1)
      replace hinv := hide hinv
      go_wp2_with fail
      go_ret
      exact ⟨A', N, d, rfl, by rw [← hys.out]; exact own_more hown (by omega), hbx.trans (hbb.mono hbx.size)⟩
end Go.Proofs.Ytkcckfpihpfbnaa
