/-
  Draws of sets.
  Conditions: as each theorem says.
-/
import Derived.Test.YtooiobcghobefaaDoorDraw2
namespace Go.Proofs.YtooiobcghobefaaDoor
open Go.RowKit
set_option linter.unusedVariables false

theorem below_cur {w w1 w2 : World} {g n c : Nat} {A : Option Addr} {zs : List Int} (hb : Below w.heap.size w w1) (hc : CurAt w1 g w.heap.size A n c zs) (hg : w1.grownBy w2 (some g)) : Below w.heap.size w w2 :=
  hb.grown hg hb.size fun k hk => by cases hk; obtain ⟨⟨i, H, _, h2⟩, _, _⟩ := hc; exact (h2.lt g rfl).1
end Go.Proofs.YtooiobcghobefaaDoor
