/-
  PartsBySize of the program.
  Conditions: as each theorem says.
-/
import Derived.Test.YtkcckfpihpfbnaaBySize2
namespace Go.Proofs.Ytkcckfpihpfbnaa
open Go.RowKit Go.Shelf
set_option linter.unusedVariables false

theorem wrap64_pow5P (k : Nat) (hk : k ≤ 5) : wrap64 ((2 : Int) ^ k) = ((2 ^ k : Nat) : Int) := by
  have : k = 0 ∨ k = 1 ∨ k = 2 ∨ k = 3 ∨ k = 4 ∨ k = 5 := by omega
  rcases this with rfl | rfl | rfl | rfl | rfl | rfl <;> decide +kernel
theorem cmpReadsS (blk off size : Nat) (w : World) : CmpReads Try.prog 106 #[] encF cmpS blk off size w := fun _ _ _ _ x y => (compares x y _).mono fun e w' ⟨h1, h2⟩ => ⟨h1, 0, h2.symm⟩
set_option maxHeartbeats 1600000 in
set_option maxRecDepth 100000 in
theorem implParts (n : Int) (w : World) : Calls Try.prog 53 #[.int .i64 n] w (RetRow 3 w ((partsL n).map (Value.int .i64))) := by
  by_cases hg : 0 ≤ n ∧ n ≤ 5
  · obtain ⟨M, rfl⟩ : ∃ M : Nat, n = M := ⟨n.toNat, by omega⟩
    have hM5 : M ≤ 5 := by omega
    have hfin := hide (show partsL M = (szL (2 ^ M) (M + 1) 0).map Int.ofNat by unfold partsL; rw [if_pos hg]; simp)
    have h2M : (2 : Nat) ^ M ≤ 2 ^ 5 := Nat.pow_le_pow_right (by omega) hM5
    have h2P : 0 < (2 : Nat) ^ M := Nat.pow_pos (by omega)
    have hsrt := hide (sorted_parts M hM5)
    have hw0 := kwrap_pow5P M hM5
    have hw1 := wrap64_pow5P M hM5
    obtain ⟨P, hP⟩ : ∃ P, P = (2 : Nat) ^ M := ⟨_, rfl⟩
    rw [← hP] at h2M h2P hw0 hw1
    replace hP := hide hP
    clear hg
    go_enter Try.func53, Try.ntmps53
    go_wp2_with fail
    go_loopw [3, 4] (fun out x wr => ∃ (k N d : Nat) (A' : Option Addr), k ≤ P ∧ x = .int .i64 (k : Int) ∧ out = .slice A' N d ∧ wr.ownsRow w.heap.size 3 1 (.slice A' N d) N (((List.range k).map Int.ofNat).map (Value.int .i64)) ∧ Below w.heap.size w wr) (fun _ x _ => P - (intOf x).toNat)
    case atStart => exact ⟨0, 0, 0, _, by omega, rfl, rfl, own_start w _, (Below.refl _ _).alloc (Nat.le_refl _) _⟩
    case round =>
      obtain ⟨k, N, d, A', hk, rfl, rfl, hown, hb⟩ := hrel
      have hN : N = k := by have h1 := own_len hown; simpa using h1.symm
      by_cases hlt : k < P
      · have hstep := hide (show (List.range (k + 1)).map Int.ofNat = (List.range k).map Int.ofNat ++ [(k : Int)] by rw [List.range_succ, List.map_append]; rfl)
        replace hN := hide hN
        have hN2 : N ≤ 100 := by rw [hN.out]; omega
        go_wp2_with (at_builtin; refine wpList_push elemInt rfl (.tmp 19) (.tmp 21) wr (.int .i64 (k : Int)) rfl w.heap.size (.slice A' N d) N _ rfl rfl hown rfl (by omega) hb.size ?_; intro A2 c2 w4 hown2 hg2 hat2; have hb2 := below_push hb hb.size hown hg2)
        go_roundw
        case rel => exact ⟨k + 1, N + 1, c2, A2, by omega, by go_num, rfl, by rw [hstep.out, List.map_append]; exact hown2, hb2⟩
        case measure => simp [intOf]; omega
      · obtain rfl : k = P := by omega
        subst hN
        obtain ⟨g, rfl, hgB, hgl⟩ : ∃ g, A' = some ⟨g, 0, none⟩ ∧ w.heap.size ≤ g ∧ g < wr.heap.size := by
          rcases hown.2 with ⟨hv, h1⟩ | ⟨g', cap, cur, hv, hb', hg', _⟩
          · omega
          · cases hv; exact ⟨g', rfl, hb', (Array.getElem?_eq_some_iff.1 hg').1⟩
        have hre : ((List.range N).map Int.ofNat).map (Value.int .i64) = ((List.range N).map (Fin.ofNat 32)).map encF := by
          rw [List.map_map, List.map_map]
          refine List.map_congr_left fun x hx => ?_
          have hx' := List.mem_range.1 hx
          simp [encF, Nat.mod_eq_of_lt (show x < 32 by omega)]
        rw [hre] at hown
        have hlen : ((List.range N).map (Fin.ofNat 32)).length = N := by simp
        have eg : ∀ args w, (callFunc 106 args).run Try.prog w = .ok (.enter 106 args) w := enters_of Try.func106 (by kernel_rfl) rfl
        have hS := Any.slices_SortFunc_total Try.sortL encF (fun _ => rfl) cmpS swoS 106 #[] g 0 d ((List.range N).map (Fin.ofNat 32)).toArray wr eg (cmpReadsS _ _ _ wr).lays (own_holdsG encF hown) hgl (by simp; omega) totS
        change Calls Try.prog 105 _ _ _ at hS
        rw [show ((List.range N).map (Fin.ofNat 32)).toArray.size = N by simp] at hS
        replace hS := hide hS
        replace hre := hide hre
        replace hlen := hide hlen
        clear eg
        go_wp2_with fail
        refine hS.out.mono ?_
        rintro e w2 ⟨rfl, q, os, hw2⟩
        have ho2 := own_putRowG encF hown (((List.range N).map (Fin.ofNat 32)).toArray.toList.mergeSort fun x y => !(ltOf cmpS) y x) (by simp) q os
        have hb2 := below_putRowG encF hb hgB 0 q (((List.range N).map (Fin.ofNat 32)).toArray.toList.mergeSort fun x y => !(ltOf cmpS) y x).toArray os hb.size
        unfold sortWorld at hw2
        rw [← hw2] at ho2 hb2
        clear hw2 hS hown
        rw [hP.out] at ho2
        have hs2 := hsrt.out
        have ho3 := hide ho2
        clear ho2
        go_wp2_with fail
        go_ret
        exact ⟨_, N, d, rfl, by rw [hfin.out, ← hs2, hP.out]; exact ho3.out, hb2⟩
  · have hfin := hide (show partsL n = [] by unfold partsL; rw [if_neg hg])
    by_cases h0 : 0 ≤ n
    · have d0 : decide (n < 0) = false := by simpa using h0
      have d1 : decide (5 < n) = true := by simp; omega
      clear hg
      go_enter Try.func53, Try.ntmps53
      go_wp2_with fail
      go_ret
      exact ⟨_, 0, 0, rfl, by rw [hfin.out]; exact own_start w _, (Below.refl _ _).alloc (Nat.le_refl _) _⟩
    · have d0 : decide (n < 0) = true := by simpa using h0
      clear hg
      go_enter Try.func53, Try.ntmps53
      go_wp2_with fail
      go_ret
      exact ⟨_, 0, 0, rfl, by rw [hfin.out]; exact own_start w _, (Below.refl _ _).alloc (Nat.le_refl _) _⟩
end Go.Proofs.Ytkcckfpihpfbnaa
