/-
  The walk of the law FnExactProductOf: it returns true: the program's ProductOf answers as the reference's, in new memory.
  Conditions: none; every argument that can be read as data.
-/
import Derived.Test.YtkcckfpihpfbnaaProC
import Derived.Test.YtkcckfpihpfbnaaHeldS
import Derived.Test.YtkcckfpihpfbnaaMark
namespace Go.Proofs.Ytkcckfpihpfbnaa.lProductOf
open Go.RowKit
set_option linter.unusedVariables false

set_option maxHeartbeats 3200000 in
set_option maxRecDepth 100000 in
theorem walk (w : World) (A : Option Addr) (n c : Nat) (p : List (List Int)) (h : RowsAt w w.heap.size A n p ∧ ∀ zs ∈ p, Fits zs) (B : Option Addr) (m d : Nat) (q : List (List Int)) (h' : RowsAt w w.heap.size B m q ∧ ∀ zs ∈ q, Fits zs) (a2 : Int) (wa : (Lit.int .i64 a2).wf = true) :
    Calls Try.prog 7 #[.slice A n c, .slice B m d, .int .i64 a2] w (RetVal w (.bool true)) := by
  obtain ⟨hp, _⟩ := h
  obtain ⟨hq, _⟩ := h'
  clear wa
  have hn := rows_bound hp
  have hm := rows_bound hq
  have heq : ∀ xs : List (List Int), (xs == xs) = true := fun xs => beq_self_eq_true xs
  replace heq := hide heq
  by_cases hs : n + lens p ≤ 1048576
  · obtain ⟨L, hsz, g1, g2⟩ := szV_left (left := 1048576) (tot := n + lens p) (by omega)
    have hL : L ≤ 1048576 := by omega
    by_cases hs' : ((m + lens q : Nat) : Int) ≤ L
    · obtain ⟨L2, hsz2, g3, g4⟩ := szV_left (left := (L : Int)) (tot := m + lens q) hs'
      have hs2 : m + lens q ≤ 1048576 := by omega
      have hlp : lens p ≤ 1048576 := by omega
      have hlq : lens q ≤ 1048576 := by omega
      have hcl := proL_len p q a2
      obtain ⟨V, hV⟩ : ∃ V, V = proL p q a2 := ⟨_, rfl⟩
      rw [← hV] at hcl
      replace hV := hide hV
      replace hsz := hide hsz
      replace hsz2 := hide hsz2
      replace hs := hide hs
      replace hs2 := hide hs2
      clear g1 g2 g3 g4 hs' hm
      go_enter Try.func7, Try.ntmps7
      go_wp2_with fail
      refine (szRows _ _ _ _ _ _ hp (by omega) (by omega)).mono ?_
      rintro e w1 ⟨rfl, rfl⟩
      rw [hsz.out]
      go_wp2_with fail
      refine (szRows _ _ _ _ _ _ hq (by omega) (by omega)).mono ?_
      rintro e w1 ⟨rfl, rfl⟩
      rw [hsz2.out]
      go_wp2_with fail
      refine (toRows _ _ _ _ _ hp hs.out).mono ?_
      rintro e w1 ⟨A1, n1, c1, rfl, ho1, hb1⟩
      obtain rfl : n1 = n := ho1.1.symm.trans hp.1
      go_wp2_with fail
      refine (toRows _ _ _ _ _ (hq.later hb1) hs2.out).mono ?_
      rintro e w2 ⟨B1, m1, d1, rfl, ho2, hb2⟩
      obtain rfl : m1 = m := ho2.1.symm.trans hq.1
      go_wp2_with fail
      refine (specPro _ _ _ _ _ _ _ _ _ _ (ho1.rows.later hb2) ho2.rows hs.out hs2.out).mono ?_
      rintro e w3 ⟨AS, nS, cS, rfl, hoS, hb3⟩
      rw [← hV.out] at hoS
      have rS := hoS.rows
      have hb := below_call (below_call hb1 hb2) hb3
      have hB0 := hb.size
      clear ho1 ho2 hb1 hb2 hb3 hoS
      go_wp2_with fail
      refine (toRows _ _ _ _ _ (hp.later hb) hs.out).mono ?_
      rintro e w4 ⟨A2, n2, c2, rfl, ho0, hb1⟩
      obtain rfl : n2 = n1 := ho0.1.symm.trans hp.1
      have hu0 := ho0.under
      replace rS := rS.below hb1
      replace hb := below_call hb hb1
      have s4 := hb1.size
      clear hb1
      go_wp2_with fail
      refine (toRows _ _ _ _ _ (hq.later hb) hs2.out).mono ?_
      rintro e w5 ⟨B2, m2, d2, rfl, ho1, hb1⟩
      obtain rfl : m2 = m1 := ho1.1.symm.trans hq.1
      have hu1 := ho1.under
      replace hu0 := hu0.below hb1 (fun b o e => (ho0.in_ b o e))
      replace ho0 := ho0.below hb1
      replace rS := rS.below (hb1.mono (by omega))
      replace hb := below_call hb hb1
      have s5 := hb1.size
      clear hb1
      go_wp2_with fail
      refine (implPro _ _ _ _ _ _ _ _ _ _ ho0.rows ho1.rows).mono ?_
      rintro e w6 ⟨AG, nG, cG, rfl, hoG, hb1⟩
      rw [← hV.out] at hoG
      replace hu0 := hu0.below hb1 (fun b o e => (ho0.in_ b o e))
      replace hu1 := hu1.below hb1 (fun b o e => (ho1.in_ b o e))
      replace ho0 := ho0.below hb1
      replace ho1 := ho1.below hb1
      replace rS := rS.below (hb1.mono (by omega))
      replace hb := below_call hb hb1
      have s6 := hb1.size
      clear hb1
      go_wp2_with fail
      refine (eqRowsV _ _ _ _ _ _ V V _ hoG.rows (rS.more (by omega))).mono ?_
      rintro e w7 ⟨rfl, hb1⟩
      rw [heq.out]
      replace hu0 := hu0.below hb1 (fun b o e => (ho0.in_ b o e))
      replace hu1 := hu1.below hb1 (fun b o e => (ho1.in_ b o e))
      replace ho0 := ho0.below hb1
      replace ho1 := ho1.below hb1
      replace hoG := hoG.below hb1
      replace rS := rS.below (hb1.mono (by omega))
      replace hb := below_call hb hb1
      have s7 := hb1.size
      clear hb1
      go_wp2_with fail
      refine (toRows _ _ _ _ _ (hp.later hb) hs.out).mono ?_
      rintro e w8 ⟨AT, nT, cT, rfl, hoT, hb1⟩
      obtain rfl := hoT.1.symm.trans hp.1
      replace hu0 := hu0.below hb1 (fun b o e => (ho0.in_ b o e))
      replace hu1 := hu1.below hb1 (fun b o e => (ho1.in_ b o e))
      replace ho0 := ho0.below hb1
      replace ho1 := ho1.below hb1
      replace hoG := hoG.below hb1
      replace rS := rS.below (hb1.mono (by omega))
      replace hb := below_call hb hb1
      have s8 := hb1.size
      clear hb1
      have rT := hoT.rows
      clear hoT
      go_wp2_with fail
      refine (eqRowsV _ _ _ _ _ _ p p _ ho0.rows rT).mono ?_
      rintro e w9 ⟨rfl, hb1⟩
      rw [heq.out]
      replace hu0 := hu0.below hb1 (fun b o e => (ho0.in_ b o e))
      replace hu1 := hu1.below hb1 (fun b o e => (ho1.in_ b o e))
      replace ho0 := ho0.below hb1
      replace ho1 := ho1.below hb1
      replace hoG := hoG.below hb1
      replace rS := rS.below (hb1.mono (by omega))
      replace hb := below_call hb hb1
      have s9 := hb1.size
      clear hb1
      clear rT
      go_wp2_with fail
      refine (toRows _ _ _ _ _ (hq.later hb) hs2.out).mono ?_
      rintro e w10 ⟨AT, nT, cT, rfl, hoT, hb1⟩
      obtain rfl := hoT.1.symm.trans hq.1
      replace hu0 := hu0.below hb1 (fun b o e => (ho0.in_ b o e))
      replace hu1 := hu1.below hb1 (fun b o e => (ho1.in_ b o e))
      replace ho0 := ho0.below hb1
      replace ho1 := ho1.below hb1
      replace hoG := hoG.below hb1
      replace rS := rS.below (hb1.mono (by omega))
      replace hb := below_call hb hb1
      have s10 := hb1.size
      clear hb1
      have rT := hoT.rows
      clear hoT
      go_wp2_with fail
      refine (eqRowsV _ _ _ _ _ _ q q _ ho1.rows rT).mono ?_
      rintro e w11 ⟨rfl, hb1⟩
      rw [heq.out]
      replace hu0 := hu0.below hb1 (fun b o e => (ho0.in_ b o e))
      replace hu1 := hu1.below hb1 (fun b o e => (ho1.in_ b o e))
      replace ho0 := ho0.below hb1
      replace ho1 := ho1.below hb1
      replace hoG := hoG.below hb1
      replace rS := rS.below (hb1.mono (by omega))
      replace hb := below_call hb hb1
      have s11 := hb1.size
      clear hb1
      clear rT
      go_wp2_with fail
      refine (markRows1 w3.heap.size w4.heap.size _ _ _ _ _ ho0 hu0 (by omega)).mono ?_
      rintro e w12 ⟨rfl, hm0, hmk⟩
      have hb1 : Below w3.heap.size w11 w12 := hmk.low (by omega)
      replace hoG := hoG.marked hmk (by omega)
      have hu1' : Under w5.heap.size w12 _ _ := under_marked hu1 ho1 hmk (by omega)
      replace ho1 := ho1.marked hmk (by omega)
      replace rS := rS.below hb1
      replace hb := hb.trans (hb1.mono hB0)
      have s12 := hb1.size
      clear hb1 hmk hm0 ho0 hu0 hu1
      go_wp2_with fail
      refine (markRows2 w4.heap.size w5.heap.size _ _ _ _ _ _ ho1 hu1' (by omega)).mono ?_
      rintro e w13 ⟨rfl, hm0, hmk⟩
      have hb1 : Below w4.heap.size w12 w13 := hmk.low (by omega)
      replace hoG := hoG.marked hmk (by omega)
      replace rS := rS.below (hb1.mono (by omega))
      replace hb := hb.trans (hb1.mono (by omega))
      have s13 := hb1.size
      clear hb1 hmk hm0 ho1 hu1'
      go_wp2_with (go_at_call 46; refine (eqRowsV _ _ _ _ _ _ V V _ hoG.rows (rS.more (by omega))).mono ?_; rintro e w14 ⟨rfl, hb1⟩; rw [heq.out])
      replace hoG := hoG.below hb1
      replace rS := rS.below (hb1.mono (by omega))
      replace hb := below_call hb hb1
      have s14 := hb1.size
      clear hb1
      have huG := hoG.under
      go_wp2_with fail
      refine (markRows1 w5.heap.size w14.heap.size _ _ _ _ _ hoG huG (by omega)).mono ?_
      rintro e w15 ⟨rfl, hm, hmk⟩
      have hb1 : Below w5.heap.size w14 w15 := hmk.low (by omega)
      replace rS := rS.below (hb1.mono (by omega))
      replace hb := hb.trans (hb1.mono (by omega))
      have s15 := hb1.size
      clear hb1 hmk huG hoG
      go_wp2_with fail
      refine (heldRows1 _ _ _ _ _ hm.rows (by omega)).mono ?_
      rintro e w16 ⟨rfl, rfl⟩
      go_wp2_with fail
      refine (toRows _ _ _ _ _ (hp.later hb) hs.out).mono ?_
      rintro e w16 ⟨A6, n6, c6, rfl, hoT, hb1⟩
      obtain rfl := hoT.1.symm.trans hp.1
      replace hm := hm.below hb1
      replace rS := rS.below (hb1.mono (by omega))
      replace hb := below_call hb hb1
      have s16 := hb1.size
      clear hb1
      go_wp2_with fail
      refine (toRows _ _ _ _ _ (hq.later hb) hs2.out).mono ?_
      rintro e w17 ⟨A7, n7, c7, rfl, hoU, hb1⟩
      obtain rfl := hoU.1.symm.trans hq.1
      replace hoT := hoT.below hb1
      replace hm := hm.below hb1
      replace rS := rS.below (hb1.mono (by omega))
      replace hb := below_call hb hb1
      have s17 := hb1.size
      clear hb1
      go_wp2_with fail
      refine (implPro _ _ _ _ _ _ _ _ _ _ hoT.rows hoU.rows).mono ?_
      rintro e w18 ⟨A8, n8, c8, rfl, hoJ, hb1⟩
      rw [← hV.out] at hoJ
      replace hm := hm.below hb1
      replace rS := rS.below (hb1.mono (by omega))
      replace hb := below_call hb hb1
      have s18 := hb1.size
      clear hb1
      clear hoT hoU
      go_wp2_with fail
      refine (eqRowsV _ _ _ _ _ _ V V _ hoJ.rows (rS.more (by omega))).mono ?_
      rintro e w19 ⟨rfl, hb1⟩
      rw [heq.out]
      replace hm := hm.below hb1
      replace hb := below_call hb hb1
      clear hb1 hoJ rS
      go_wp2_with fail
      refine (heldRows1 _ _ _ _ _ hm.rows (by omega)).mono ?_
      rintro e w20 ⟨rfl, rfl⟩
      go_wp2_with fail
      go_ret
      exact ⟨rfl, hb⟩
    · have hsz2 := hide (szV_no (left := (L : Int)) (tot := ((m + lens q : Nat) : Int)) (by omega))
      replace hsz := hide hsz
      clear g1 g2 hs'
      go_enter Try.func7, Try.ntmps7
      go_wp2_with fail
      refine (szRows _ _ _ _ _ _ hp (by omega) (by omega)).mono ?_
      rintro e w1 ⟨rfl, rfl⟩
      rw [hsz.out]
      go_wp2_with fail
      refine (szRows _ _ _ _ _ _ hq (by omega) (by omega)).mono ?_
      rintro e w1 ⟨rfl, rfl⟩
      rw [hsz2.out]
      go_wp2_with fail
      go_ret
      exact ⟨rfl, Below.refl _ _⟩
  · have hsz := hide (szV_no (left := 1048576) (tot := ((n + lens p : Nat) : Int)) (by omega))
    go_enter Try.func7, Try.ntmps7
    go_wp2_with fail
    refine (szRows _ _ _ _ _ _ hp (by omega) (by omega)).mono ?_
    rintro e w1 ⟨rfl, rfl⟩
    rw [hsz.out]
    go_wp2_with fail
    go_ret
    exact ⟨rfl, Below.refl _ _⟩

end Go.Proofs.Ytkcckfpihpfbnaa.lProductOf
