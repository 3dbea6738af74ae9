/-
  The walk of the law FnExactMinimalSets: it returns true: the program's MinimalSets answers as the reference's, in new memory.
  Conditions: none; every argument that can be read as data.
-/
import Derived.Test.YtkcckfpihpfbnaaMinS
import Derived.Test.YtkcckfpihpfbnaaHelp
namespace Go.Proofs.Ytkcckfpihpfbnaa.lMinimalSets
open Go.RowKit
set_option linter.unusedVariables false

set_option maxHeartbeats 1600000 in
set_option maxRecDepth 100000 in
theorem walk (w : World) (A : Option Addr) (n c : Nat) (zs : List Int) (h : Reads w w.heap.size A n (zs.map (Value.int .i64))) (hf : Fits zs) :
    Calls Try.prog 11 #[.slice A n c] w (RetVal w (.bool true)) := by
  have hn := h.bound
  clear hf
  have lx := ints_len h
  have heqi : ∀ xs : List Int, (xs == xs) = true := fun xs => beq_self_eq_true xs
  replace heqi := hide heqi
  by_cases hs : n ≤ 1048576
  · have d0 : decide ((1048576 : Int) < (n : Int)) = false := by simp; omega
    have d0' : decide (1048576 < n) = false := by simp; omega
    have hL := topL_len false zs
    replace lx := hide lx
    obtain ⟨V, hV⟩ : ∃ V, V = topL false zs := ⟨_, rfl⟩
    rw [← hV] at hL
    replace hV := hide hV
    go_enter Try.func11, Try.ntmps11
    go_wp2_with fail
    refine (toInts _ _ _ zs _ h hs).mono ?_
    rintro e w1 ⟨A1, n1, c1, rfl, ho1, hb⟩
    go_wp2_with fail
    refine (specMin _ _ _ zs _ (Reads.of_own ho1)).mono ?_
    rintro e w2 ⟨A2, n2, c2, rfl, ho2, hb1⟩
    rw [← hV.out] at ho2
    have rS := Reads.of_own ho2
    replace hb := below_call hb hb1
    clear hb1 ho1 ho2
    have hw2 : w.heap.size ≤ w2.heap.size := hb.size
    go_wp2_with fail
    refine (toInts _ _ _ zs _ ((h.below hb).more hb.size) hs).mono ?_
    rintro e w3 ⟨A3, n3, c3, rfl, hoX, hb1⟩
    obtain rfl : n3 = n := by have h1 := own_len hoX; rw [List.length_map] at h1; have := lx.out; omega
    replace hb := below_call hb hb1
    replace rS := rS.below hb1
    have hw3 : w2.heap.size ≤ w3.heap.size := hb1.size
    clear hb1
    go_wp2_with fail
    refine (implMin _ _ _ zs _ (Reads.of_own hoX) (own_cap hoX)).mono ?_
    rintro e w4 ⟨A4, n4, c4, rfl, hoG, hb1⟩
    rw [← hV.out] at hoG
    obtain rfl : V.length = n4 := by have := own_len hoG; simpa using this
    replace hb := below_call hb hb1
    replace rS := rS.below (hb1.mono hw3)
    have hdis : ∀ k, (Value.slice A3 n3 c3).ownBlock = some k → k < w3.heap.size := fun k hk => (hoX.lt k hk).2
    have hne : (Value.slice A4 V.length c4).ownBlock = none ∨ (Value.slice A4 V.length c4).ownBlock ≠ (Value.slice A3 n3 c3).ownBlock := by
      rcases hq : (Value.slice A4 V.length c4).ownBlock with _ | g
      · exact .inl rfl
      · refine .inr fun he => ?_
        have h1 := hdis g he.symm
        have h2 := (hoG.lt g hq).1
        omega
    replace hne := hide hne
    clear hdis
    replace hoX := own_below hoX hb1
    have hw4 : w3.heap.size ≤ w4.heap.size := hb1.size
    clear hb1
    go_wp2_with fail
    refine (eqInts _ _ _ _ _ _ V V _ (Reads.of_own hoG) (rS.more (by omega))).mono ?_
    rintro e w5 ⟨rfl, hb1⟩
    rw [heqi.out]
    replace hb := below_call hb hb1
    replace rS := rS.below (hb1.mono (by omega))
    replace hoX := own_below hoX hb1
    replace hoG := own_below hoG hb1
    have hw5 : w4.heap.size ≤ w5.heap.size := hb1.size
    clear hb1
    go_wp2_with fail
    refine (toInts _ _ _ zs _ ((h.below hb).more hb.size) hs).mono ?_
    rintro e w6 ⟨A6, n6, c6, rfl, hoY, hb1⟩
    replace hb := below_call hb hb1
    replace rS := rS.below (hb1.mono (by omega))
    replace hoX := own_below hoX hb1
    replace hoG := own_below hoG hb1
    have hw6 : w5.heap.size ≤ w6.heap.size := hb1.size
    clear hb1
    go_wp2_with fail
    refine (eqInts _ _ _ _ _ _ zs zs _ (Reads.of_own hoX) (Reads.of_own hoY)).mono ?_
    rintro e w7 ⟨rfl, hb1⟩
    rw [heqi.out]
    replace hb := below_call hb hb1
    replace rS := rS.below (hb1.mono (by omega))
    replace hoX := own_below hoX hb1
    replace hoG := own_below hoG hb1
    have hw7 : w6.heap.size ≤ w7.heap.size := hb1.size
    clear hb1 hoY
    go_wp2_with fail
    refine (markInts1 _ _ _ _ _ _ hoX (by omega)).mono ?_
    rintro e w8 ⟨rfl, hm1, hg⟩
    have hb1 : Below w2.heap.size w7 w8 := (Below.refl _ _).grown hg (by omega) (fun q hq => (hoX.lt q hq).1)
    replace hb := hb.trans (hb1.mono hw2)
    replace rS := rS.below hb1
    replace hoG := hoG.kept hg hne.out
    have hw8 : w7.heap.size ≤ w8.heap.size := hb1.size
    clear hb1 hg hm1 hoX hne
    go_wp2_with (go_at_call 54; refine (eqInts _ _ _ _ _ _ V V _ (Reads.of_own hoG) (rS.more (by omega))).mono ?_; rintro e w9 ⟨rfl, hb1⟩; rw [heqi.out])
    replace hb := below_call hb hb1
    replace rS := rS.below (hb1.mono (by omega))
    replace hoG := own_below hoG hb1
    have hw9 : w8.heap.size ≤ w9.heap.size := hb1.size
    clear hb1
    go_wp2_with fail
    refine (markInts1 _ _ _ _ _ _ hoG (by omega)).mono ?_
    rintro e w10 ⟨rfl, hm, hg⟩
    have hb1 : Below w3.heap.size w9 w10 := (Below.refl _ _).grown hg (by omega) (fun q hq => (hoG.lt q hq).1)
    replace hb := hb.trans (hb1.mono (by omega))
    replace rS := rS.below (hb1.mono (by omega))
    have hw10 : w9.heap.size ≤ w10.heap.size := hb1.size
    clear hb1 hg hoG
    go_wp2_with fail
    refine (heldInts1 _ _ _ _ (Reads.of_own hm) (by omega)).mono ?_
    rintro e w11 ⟨rfl, rfl⟩
    go_wp2_with fail
    refine (toInts _ _ _ zs _ ((h.below hb).more hb.size) hs).mono ?_
    rintro e w12 ⟨A12, n12, c12, rfl, hoY, hb1⟩
    replace hb := below_call hb hb1
    replace rS := rS.below (hb1.mono (by omega))
    replace hm := own_below hm hb1
    have hw12 : w10.heap.size ≤ w12.heap.size := hb1.size
    clear hb1
    go_wp2_with fail
    refine (implMin _ _ _ zs _ (Reads.of_own hoY) (own_cap hoY)).mono ?_
    rintro e w13 ⟨A13, n13, c13, rfl, hoJ, hb1⟩
    rw [← hV.out] at hoJ
    replace hb := below_call hb hb1
    replace rS := rS.below (hb1.mono (by omega))
    replace hm := own_below hm hb1
    have hw13 : w12.heap.size ≤ w13.heap.size := hb1.size
    clear hb1 hoY
    go_wp2_with fail
    refine (eqInts _ _ _ _ _ _ V V _ (Reads.of_own hoJ) (rS.more (by omega))).mono ?_
    rintro e w14 ⟨rfl, hb1⟩
    rw [heqi.out]
    replace hb := below_call hb hb1
    replace hm := own_below hm hb1
    clear hb1 hoJ rS
    go_wp2_with fail
    refine (heldInts1 _ _ _ _ (Reads.of_own hm) (by omega)).mono ?_
    rintro e w15 ⟨rfl, rfl⟩
    go_wp2_with fail
    go_ret
    exact ⟨rfl, hb⟩
  · have d0 : decide ((1048576 : Int) < (n : Int)) = true := by simp; omega
    have d0' : decide (1048576 < n) = true := by simp; omega
    go_enter Try.func11, Try.ntmps11
    go_wp2_with fail
    go_ret
    exact ⟨rfl, Below.refl _ _⟩

end Go.Proofs.Ytkcckfpihpfbnaa.lMinimalSets
