/-
  The walk of the law FnExactParseInt: it returns true: the program's ParseInt answers as the reference's.
  Conditions: the library's own variables hold what its text lays.
-/
import Derived.Test.YtooiobcghobefaaDoorItaI
namespace Go.Proofs.YtooiobcghobefaaDoor.lParseInt
open Go.RowKit
set_option linter.unusedVariables false

set_option maxRecDepth 100000 in
theorem walk (a : ByteArray) (wa : a.size ≤ maxLen) (w : World) (hm : Tabs w ∧ Errs w) : Calls Tryd.prog 7 #[.string a] w (RetVal w (.bool true)) := by
  obtain ⟨ht, he⟩ := hm
  rw [str_of]
  obtain ⟨s, hs⟩ : ∃ s, s = a.data.toList := ⟨_, rfl⟩
  have hl : s.length ≤ 9223372036854775807 := by rw [hs]; unfold maxLen at wa; have : a.data.size = a.size := rfl; simp; omega
  rw [← hs]
  clear hs wa
  by_cases hbig : 1048576 < s.length
  · have d0 : decide ((1048576 : Int) < (s.length : Int)) = true := by simp; omega
    replace ht := hide ht; replace he := hide he
    go_enter Tryd.func7, Tryd.ntmps7
    go_wp2_with fail
    go_ret
    exact ⟨rfl, Below.refl _ _⟩
  · have d0 : decide ((1048576 : Int) < (s.length : Int)) = false := by simp; omega
    have c1 := hide (specParI s w (by omega))
    have c2 := hide (fun W h1 h2 => implParI s W (by omega) h1 h2)
    replace ht := hide ht; replace he := hide he
    go_enter Tryd.func7, Tryd.ntmps7
    go_wp2_with fail
    refine c1.out.mono ?_
    rintro e w1 ⟨rfl, hb1⟩
    unfold parV
    go_wp2_with fail
    refine (c2.out _ (ht.out.below hb1) (he.out.below hb1)).mono ?_
    rintro e w2 ⟨rfl, hb2⟩
    have hb := below_call hb1 hb2
    unfold parV
    generalize parN s = x
    generalize parG s = y
    have hx : (x != x) = false := by simp
    have hy : (y != y) = false := by simp
    go_wp2_with fail
    go_ret
    exact ⟨rfl, hb⟩
end Go.Proofs.YtooiobcghobefaaDoor.lParseInt
