/-
  The walk of the law FnExactSameDeps: it returns true: the program's SameDeps answers as the reference's.
  Conditions: none; every argument that can be read as data.
-/
import Derived.Test.YtgoggljmifjlfaaDeps2
namespace Go.Proofs.Ytgoggljmifjlfaa.lSameDeps
open Go.RowKit
set_option linter.unusedVariables false

set_option maxHeartbeats 800000 in
set_option maxRecDepth 100000 in
theorem walk (w : World) (A : Option Addr) (n c : Nat) (p : List (Int × Int)) (hp : DepsAt w w.heap.size A n p) (h : ∀ d ∈ p, Fits [d.1, d.2]) (B : Option Addr) (m d : Nat) (q : List (Int × Int)) (hq : DepsAt w w.heap.size B m q) (h' : ∀ d ∈ q, Fits [d.1, d.2]) :
    Calls Try.prog 6 #[.slice A n c, .slice B m d] w (RetVal w (.bool true)) := by
  clear h h'
  have hn := deps_bound hp
  have hm := deps_bound hq
  by_cases hs : n ≤ 1048576
  · obtain ⟨L, hsz, g1, g2⟩ := szV_left (left := 1048576) (tot := n) (by omega)
    have hL : L ≤ 1048576 := by omega
    by_cases hs' : (m : Int) ≤ L
    · obtain ⟨L2, hsz2, g3, g4⟩ := szV_left (left := (L : Int)) (tot := m) hs'
      have hs2 : m ≤ 1048576 := by omega
      replace hsz := hide hsz
      replace hsz2 := hide hsz2
      replace hs := hide hs
      replace hs2 := hide hs2
      clear g1 g2 g3 g4 hs'
      go_enter Try.func6, Try.ntmps6
      go_wp2_with fail
      refine (szDeps _ _ _ _ _ (by omega) (by omega) hn).mono ?_
      rintro e w1 ⟨rfl, rfl⟩
      rw [hsz.out]
      go_wp2_with fail
      refine (szDeps _ _ _ _ _ (by omega) (by omega) hm).mono ?_
      rintro e w1 ⟨rfl, rfl⟩
      rw [hsz2.out]
      go_wp2_with fail
      refine (toDeps _ _ _ _ _ hp hs.out).mono ?_
      rintro e w1 ⟨A1, n1, c1, rfl, ho1, hb1⟩
      obtain rfl : n1 = n := ho1.1.symm.trans hp.1
      go_wp2_with fail
      refine (toDeps _ _ _ _ _ (hq.later hb1) hs2.out).mono ?_
      rintro e w2 ⟨B1, m1, d1, rfl, ho2, hb2⟩
      obtain rfl : m1 = m := ho2.1.symm.trans hq.1
      go_wp2_with fail
      refine ((specSame _ _ _ _ _ _ _ _ _ (ho1.later hb2) ho2).mono fun _ _ h => h.below).mono ?_
      rintro e w3 ⟨rfl, hb3⟩
      have hb := below_call (below_call hb1 hb2) hb3
      clear ho1 ho2 hb1 hb2 hb3
      go_wp2_with fail
      refine (toDeps _ _ _ _ _ (hp.later hb) hs.out).mono ?_
      rintro e w4 ⟨A2, n2, c2, rfl, ho1, hb1⟩
      obtain rfl : n2 = n1 := ho1.1.symm.trans hp.1
      go_wp2_with fail
      refine (toDeps _ _ _ _ _ (hq.later (below_call hb hb1)) hs2.out).mono ?_
      rintro e w5 ⟨B2, m2, d2, rfl, ho2, hb2⟩
      obtain rfl : m2 = m1 := ho2.1.symm.trans hq.1
      have r1 := ho1.later hb2
      have r2 := ho2
      replace hb := below_call (below_call hb hb1) hb2
      clear ho1 ho2 hb1 hb2
      go_wp2_with fail
      refine ((implSame _ _ _ _ _ _ _ _ _ r1 r2).mono fun _ _ h => h.below).mono ?_
      rintro e w6 ⟨rfl, hb1⟩
      replace r1 := r1.later hb1
      replace r2 := r2.later hb1
      replace hb := below_call hb hb1
      clear hb1
      go_wp2_with fail
      refine (toDeps _ _ _ _ _ (hp.later hb) hs.out).mono ?_
      rintro e w7 ⟨A3, n3, c3, rfl, ho1, hb1⟩
      obtain rfl : n3 = n2 := ho1.1.symm.trans hp.1
      replace hb := below_call hb hb1
      replace r2 := r2.later hb1
      go_wp2_with fail
      refine (eqDeps _ _ _ _ _ _ _ _ (r1.later hb1) ho1).mono ?_
      rintro e w8 ⟨rfl, hb2⟩
      replace hb := below_call hb hb2
      replace r2 := r2.later hb2
      clear ho1 hb1 hb2 r1
      go_wp2_with fail
      refine (toDeps _ _ _ _ _ (hq.later hb) hs2.out).mono ?_
      rintro e w9 ⟨B3, m3, d3, rfl, ho1, hb1⟩
      obtain rfl : m3 = m2 := ho1.1.symm.trans hq.1
      replace hb := below_call hb hb1
      go_wp2_with fail
      refine (eqDeps _ _ _ _ _ _ _ _ (r2.later hb1) ho1).mono ?_
      rintro e w10 ⟨rfl, hb2⟩
      go_wp2_with fail
      go_ret
      exact ⟨rfl, below_call hb hb2⟩
    · have hsz2 := hide (szV_no (left := (L : Int)) (tot := (m : Int)) (by omega))
      replace hsz := hide hsz
      clear g1 g2 hs'
      go_enter Try.func6, Try.ntmps6
      go_wp2_with fail
      refine (szDeps _ _ _ _ _ (by omega) (by omega) hn).mono ?_
      rintro e w1 ⟨rfl, rfl⟩
      rw [hsz.out]
      go_wp2_with fail
      refine (szDeps _ _ _ _ _ (by omega) (by omega) hm).mono ?_
      rintro e w1 ⟨rfl, rfl⟩
      rw [hsz2.out]
      go_wp2_with fail
      go_ret
      exact ⟨rfl, Below.refl _ _⟩
  · have hsz := hide (szV_no (left := 1048576) (tot := (n : Int)) (by omega))
    go_enter Try.func6, Try.ntmps6
    go_wp2_with fail
    refine (szDeps _ _ _ _ _ (by omega) (by omega) hn).mono ?_
    rintro e w1 ⟨rfl, rfl⟩
    rw [hsz.out]
    go_wp2_with fail
    go_ret
    exact ⟨rfl, Below.refl _ _⟩

end Go.Proofs.Ytgoggljmifjlfaa.lSameDeps
