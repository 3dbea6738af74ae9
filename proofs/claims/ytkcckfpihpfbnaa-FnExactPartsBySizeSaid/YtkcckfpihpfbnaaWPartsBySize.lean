/-
  The walk of the law FnExactPartsBySize: it returns true: the program's PartsBySize answers as the reference's, in new memory.
  Conditions: none; every argument that can be read as data.
-/
import Derived.Test.YtkcckfpihpfbnaaBySize3
import Derived.Test.YtkcckfpihpfbnaaHelp
namespace Go.Proofs.Ytkcckfpihpfbnaa.lPartsBySize
open Go.RowKit
set_option linter.unusedVariables false

set_option maxHeartbeats 800000 in
set_option maxRecDepth 100000 in
theorem walk (a0 : Int) (w0 : (Lit.int .i64 a0).wf = true) (w : World) :
    Calls Try.prog 9 #[.int .i64 a0] w (RetVal w (.bool true)) := by
  clear w0
  have hlen := partsL_len a0
  have heq := hide (beq_self_eq_true (partsL a0))
  go_enter Try.func9, Try.ntmps9
  go_wp2_with fail
  refine (specParts _ _).mono ?_
  rintro e w1 ⟨A0, n0, c0, rfl, ho0, hb1⟩
  have hn0 := hide (show n0 = (partsL a0).length by have := own_len ho0; simpa using this.symm)
  have r0 := Reads.of_own ho0
  clear ho0
  go_wp2_with fail
  refine (implParts _ _).mono ?_
  rintro e w2 ⟨A1, n1, c1, rfl, ho1, hb2⟩
  obtain rfl : n1 = n0 := by have := own_len ho1; rw [hn0.out]; simpa using this.symm
  have hn1 : n1 ≤ 200 := by have := hn0.out; omega
  have r1 := (r0.below hb2).more hb2.size
  go_wp2_with fail
  refine (eqInts _ _ _ _ _ _ (partsL a0) (partsL a0) _ (Reads.of_own ho1) r1).mono ?_
  rintro e w3 ⟨rfl, hb3⟩
  rw [heq.out]
  replace ho1 := own_below ho1 hb3
  have hs1 := hb1.size
  have hs2 := hb2.size
  have hs3 := hb3.size
  go_wp2_with fail
  refine (markInts1 _ _ _ _ _ _ ho1 (by omega)).mono ?_
  rintro e w4 ⟨rfl, hm, hg⟩
  have hb4 : Below w1.heap.size w3 w4 := (Below.refl _ _).grown hg (by omega) (fun q hq => (ho1.lt q hq).1)
  have hs4 := hb4.size
  have hb14 := hb2.trans ((hb3.mono hs2).trans hb4)
  have hb := hb1.trans (hb14.mono hb1.size)
  replace r0 := (r0.below hb14).more hb14.size
  clear ho1 hg hb1 hb2 hb3 hb4 hb14 r1
  go_wp2_with fail
  refine (heldInts1 _ _ _ _ (Reads.of_own hm) (by omega)).mono ?_
  rintro e w5 ⟨rfl, rfl⟩
  go_wp2_with fail
  refine (implParts _ _).mono ?_
  rintro e w5 ⟨A2, n2, c2, rfl, ho2, hb5⟩
  obtain rfl : n2 = n1 := by have := own_len ho2; rw [hn0.out]; simpa using this.symm
  replace r0 := (r0.below hb5).more hb5.size
  replace hm := own_below hm hb5
  replace hb := hb.trans (hb5.mono (by omega))
  go_wp2_with fail
  refine (eqInts _ _ _ _ _ _ (partsL a0) (partsL a0) _ (Reads.of_own ho2) r0).mono ?_
  rintro e w6 ⟨rfl, hb6⟩
  rw [heq.out]
  replace hm := own_below hm hb6
  go_wp2_with fail
  refine (heldInts1 _ _ _ _ (Reads.of_own hm) (by omega)).mono ?_
  rintro e w7 ⟨rfl, rfl⟩
  go_wp2_with fail
  go_ret
  exact ⟨rfl, hb.trans (hb6.mono (by have := hb5.size; omega))⟩

end Go.Proofs.Ytkcckfpihpfbnaa.lPartsBySize
