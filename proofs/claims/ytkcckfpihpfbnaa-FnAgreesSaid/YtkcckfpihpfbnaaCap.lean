/-
  A table's copy has at least its rows' number of places.
  Conditions: as the theorem says.
-/
import Derived.Test.YtkcckfpihpfbnaaRows0
namespace Go.Proofs.Ytkcckfpihpfbnaa
open Go.RowKit
theorem OwnRows.cap {w : World} {B n c : Nat} {A : Option Addr} {zss : List (List Int)} (h : OwnRows w B A n c zss) : n ≤ c := by
  obtain ⟨_, vs, ho, _⟩ := h
  rcases ho.2 with ⟨hv, h1⟩ | ⟨g', cap, cur, hv, hb, hg, hh, _⟩
  · omega
  · cases hv; exact hh
end Go.Proofs.Ytkcckfpihpfbnaa
