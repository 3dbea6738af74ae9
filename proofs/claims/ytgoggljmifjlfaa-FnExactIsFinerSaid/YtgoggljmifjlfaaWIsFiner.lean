/-
  The walk of the law FnExactIsFiner: it returns true: the program's IsFiner answers as the reference's.
  Conditions: none; every argument that can be read as data.
-/
import Derived.Test.YtgoggljmifjlfaaFin
namespace Go.Proofs.Ytgoggljmifjlfaa.lIsFiner
open Go.RowKit
set_option linter.unusedVariables false

set_option maxHeartbeats 800000 in
set_option maxRecDepth 100000 in
theorem walk (w : World) (A : Option Addr) (n c : Nat) (p : List (List Int)) (h : RowsAt w w.heap.size A n p ∧ ∀ zs ∈ p, Fits zs) (B : Option Addr) (m d : Nat) (q : List (List Int)) (h' : RowsAt w w.heap.size B m q ∧ ∀ zs ∈ q, Fits zs) :
    Calls Try.prog 11 #[.slice A n c, .slice B m d] w (RetVal w (.bool true)) := by
  obtain ⟨hp, _⟩ := h
  obtain ⟨hq, _⟩ := h'
  have hn := rows_bound hp
  have hm := rows_bound hq
  have heq : ∀ xs : List (List Int), (xs == xs) = true := fun xs => beq_self_eq_true xs
  replace heq := hide heq
  by_cases hs : n + lens p ≤ 1048576
  · obtain ⟨L, hsz, g1, g2⟩ := szV_left (left := 1048576) (tot := n + lens p) (by omega)
    have hL : L ≤ 1048576 := by omega
    by_cases hs' : ((m + lens q : Nat) : Int) ≤ L
    · obtain ⟨L2, hsz2, g3, g4⟩ := szV_left (left := (L : Int)) (tot := m + lens q) hs'
      have hs2 : m + lens q ≤ 1048576 := by omega
      replace hsz := hide hsz
      replace hsz2 := hide hsz2
      replace hs := hide hs
      replace hs2 := hide hs2
      clear g1 g2 g3 g4 hs'
      go_enter Try.func11, Try.ntmps11
      go_wp2_with fail
      refine (szRows _ _ _ _ _ _ hp (by omega) (by omega)).mono ?_
      rintro e w1 ⟨rfl, rfl⟩
      rw [hsz.out]
      go_wp2_with fail
      refine (szRows _ _ _ _ _ _ hq (by omega) (by omega)).mono ?_
      rintro e w1 ⟨rfl, rfl⟩
      rw [hsz2.out]
      go_wp2_with fail
      refine (toRows _ _ _ _ _ hp hs.out).mono ?_
      rintro e w1 ⟨A1, n1, c1, rfl, ho1, hb1⟩
      obtain rfl : n1 = n := ho1.1.symm.trans hp.1
      go_wp2_with fail
      refine (toRows _ _ _ _ _ (hq.later hb1) hs2.out).mono ?_
      rintro e w2 ⟨B1, m1, d1, rfl, ho2, hb2⟩
      obtain rfl : m1 = m := ho2.1.symm.trans hq.1
      go_wp2_with fail
      refine (specFin _ _ _ _ _ _ _ _ _ (ho1.rows.later hb2) ho2.rows).mono ?_
      rintro e w3 ⟨rfl, rfl⟩
      have hb := below_call hb1 hb2
      clear ho1 ho2 hb1 hb2
      go_wp2_with fail
      refine (toRows _ _ _ _ _ (hp.later hb) hs.out).mono ?_
      rintro e w3 ⟨A2, n2, c2, rfl, ho1, hb1⟩
      obtain rfl : n2 = n1 := ho1.1.symm.trans hp.1
      go_wp2_with fail
      refine (toRows _ _ _ _ _ (hq.later (below_call hb hb1)) hs2.out).mono ?_
      rintro e w4 ⟨B2, m2, d2, rfl, ho2, hb2⟩
      obtain rfl : m2 = m1 := ho2.1.symm.trans hq.1
      have r1 := ho1.rows.later hb2
      have r2 := ho2.rows
      replace hb := below_call (below_call hb hb1) hb2
      clear ho1 ho2 hb1 hb2
      go_wp2_with fail
      refine (implFin _ _ _ _ _ _ _ _ _ r1 r2).mono ?_
      rintro e w5 ⟨rfl, rfl⟩
      go_wp2_with fail
      refine (toRows _ _ _ _ _ (hp.later hb) hs.out).mono ?_
      rintro e w5 ⟨A3, n3, c3, rfl, ho1, hb1⟩
      obtain rfl : n3 = n2 := ho1.1.symm.trans hp.1
      replace hb := below_call hb hb1
      replace r2 := r2.later hb1
      go_wp2_with fail
      refine (eqRowsQ _ _ _ _ _ _ _ _ _ (r1.later hb1) ho1.rows).mono ?_
      rintro e w6 ⟨rfl, x, rfl⟩
      rw [heq.out]
      clear ho1 hb1
      go_wp2_with fail
      refine (toRows _ _ _ _ _ (hq.later (below_drewN hb x)) hs2.out).mono ?_
      rintro e w7 ⟨B3, m3, d3, rfl, ho1, hb1⟩
      obtain rfl : m3 = m2 := ho1.1.symm.trans hq.1
      go_wp2_with fail
      refine (eqRowsQ _ _ _ _ _ _ _ _ _ ((show RowsAt (w5.drewN x) (w5.drewN x).heap.size _ _ _ from r2).later hb1) ho1.rows).mono ?_
      rintro e w8 ⟨rfl, y, rfl⟩
      rw [heq.out]
      go_wp2_with fail
      go_ret
      exact ⟨rfl, below_drewN (below_call (below_drewN hb x) hb1) y⟩
    · have hsz2 := hide (szV_no (left := (L : Int)) (tot := ((m + lens q : Nat) : Int)) (by omega))
      replace hsz := hide hsz
      clear g1 g2 hs'
      go_enter Try.func11, Try.ntmps11
      go_wp2_with fail
      refine (szRows _ _ _ _ _ _ hp (by omega) (by omega)).mono ?_
      rintro e w1 ⟨rfl, rfl⟩
      rw [hsz.out]
      go_wp2_with fail
      refine (szRows _ _ _ _ _ _ hq (by omega) (by omega)).mono ?_
      rintro e w1 ⟨rfl, rfl⟩
      rw [hsz2.out]
      go_wp2_with fail
      go_ret
      exact ⟨rfl, Below.refl _ _⟩
  · have hsz := hide (szV_no (left := 1048576) (tot := ((n + lens p : Nat) : Int)) (by omega))
    go_enter Try.func11, Try.ntmps11
    go_wp2_with fail
    refine (szRows _ _ _ _ _ _ hp (by omega) (by omega)).mono ?_
    rintro e w1 ⟨rfl, rfl⟩
    rw [hsz.out]
    go_wp2_with fail
    go_ret
    exact ⟨rfl, Below.refl _ _⟩

end Go.Proofs.Ytgoggljmifjlfaa.lIsFiner
