/-
  Draws of sets.
  Conditions: as each theorem says.
-/
import Derived.Test.YtooiobcghobefaaGreatDoorDraw2
namespace Go.Proofs.YtooiobcghobefaaGreatDoor
open Go.RowKit
set_option linter.unusedVariables false

set_option maxRecDepth 100000 in
theorem l2any (g B : Nat) (A : Option Addr) (n c : Nat) (zs : List Int) (w : World) (hc : CurAt w g B A n c zs) :
    Calls Tryz.prog 36 #[.pointer (some ⟨g, 0, none⟩)] w (RetC IntV w g B A n c zs) := by
  go_enter Tryz.func36, Tryz.ntmps36
  go_wp2_with fail
  refine (l1once g B A n c zs 8 _ hc).mono ?_
  rintro e w1 ⟨v, rfl, ⟨b, rfl⟩, hc1, hg1⟩
  rcases b with _ | _
  · go_wp2_with fail
    refine (l1below g B A n c zs 32 _ hc1).mono ?_
    rintro e w2 ⟨v, rfl, ⟨x, rfl, hx⟩, hc2, hg2⟩
    replace hx := hide hx
    replace hc2 := hide hc2
    replace hc1 := hide hc1
    replace hc := hide hc
    go_wp2_with fail
    go_ret
    exact ⟨_, rfl, ⟨_, rfl⟩, hc2.out, hg1.trans hg2⟩
  · have hlt := hc1.1
    have hl0 := World.ownsRow_lit (base := w1.heap.size) (e := 3) (size := 1) w1 #[.int .i64 (-1), .int .i64 31, .int .i64 32, .int .i64 33] 4 (Nat.le_refl _) (by unfold maxLen; omega) rfl
    have hl : (w1.alloc (.cells #[.int .i64 (-1), .int .i64 31, .int .i64 32, .int .i64 33] 3)).ownsRow w1.heap.size 3 1 (.slice (some ⟨w1.heap.size, 0, none⟩) 4 4) 4 (([-1, 31, 32, 33] : List Int).map (Value.int .i64)) := hl0
    have hca : CurAt (w1.alloc (.cells #[.int .i64 (-1), .int .i64 31, .int .i64 32, .int .i64 33] 3)) g B A n c zs := hc1.below ((Below.refl _ _).alloc (Nat.le_refl _) _)
    have hga := World.grownBy_alloc w1 (.cells #[.int .i64 (-1), .int .i64 31, .int .i64 32, .int .i64 33] 3) (some g)
    have hpick := hide (l1pick g B A n c zs _ 4 4 _ _ _ hca hl (by omega))
    replace hc1 := hide hc1
    replace hc := hide hc
    replace hca := hide hca
    clear hl hl0 hlt
    go_wp2_with fail
    refine hpick.out.mono ?_
    rintro e w2 ⟨v, rfl, ⟨x, hx, rfl⟩, hc2, hg2⟩
    replace hx := hide hx
    replace hc2 := hide hc2
    go_wp2_with fail
    go_ret
    exact ⟨_, rfl, ⟨_, rfl⟩, hc2.out, (hg1.trans hga).trans hg2⟩
theorem below_cur {w w1 w2 : World} {g n c : Nat} {A : Option Addr} {zs : List Int} (hb : Below w.heap.size w w1) (hc : CurAt w1 g w.heap.size A n c zs) (hg : w1.grownBy w2 (some g)) : Below w.heap.size w w2 :=
  hb.grown hg hb.size fun k hk => by cases hk; obtain ⟨⟨i, H, _, h2⟩, _, _⟩ := hc; exact (h2.lt g rfl).1
end Go.Proofs.YtooiobcghobefaaGreatDoor
