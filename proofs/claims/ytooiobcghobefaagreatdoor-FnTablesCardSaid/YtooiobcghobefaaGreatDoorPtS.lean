/-
  Walk of the reference's ParseTable.
  Conditions: as each theorem says.
-/
import Derived.Test.YtooiobcghobefaaGreatDoorPtV
import Derived.Test.YtooiobcghobefaaGreatDoorPtM
import Derived.Test.YtooiobcghobefaaGreatDoorFt
namespace Go.Proofs.YtooiobcghobefaaGreatDoor
open Go.RowKit Go.Lib
set_option linter.unusedVariables false

/-- A table read: what ParseTable hands back. -/
def RetPt (l : List UInt8) (w : World) (e : Ending) (w' : World) : Prop :=
  ∃ (A : Option Addr) (n c : Nat), e = .returned (.tuple #[.agg #[.int .i64 (ptM l), .slice A n c], .bool (ptG l)]) ∧ OwnRows w' w.heap.size A n c (ptR l) ∧ Below w.heap.size w w'
theorem ret_pt {l : List UInt8} {w w' : World} {A : Option Addr} {n c : Nat} {g : Bool} (hg : ptG l = g) {m : Int} (hm : ptM l = m) {zss : List (List Int)} (hz : ptR l = zss) (ho : OwnRows w' w.heap.size A n c zss) (hb : Below w.heap.size w w') :
    RetPt l w (.returned (.tuple #[.agg #[.int .i64 m, .slice A n c], .bool g])) w' := ⟨A, n, c, by rw [hg, hm], by rw [hz]; exact ho, hb⟩
end Go.Proofs.YtooiobcghobefaaGreatDoor
