/-
  strings.Join over texts that a call owns.
  Conditions: as each theorem says.
-/
import Derived.Test.YtooiobcghobefaaGreatDoorJoinP
import Derived.Test.YtooiobcghobefaaGreatDoorMet
import Derived.Test.YtooiobcghobefaaGreatDoorShelf
namespace Go.Proofs.YtooiobcghobefaaGreatDoor
open Go.RowKit Go.Lib
set_option linter.unusedVariables false

theorem elemStrJ : Elem Tryz.prog 43 9 (.string ⟨#[]⟩) 16 := ⟨Tryz.underlying43, by kernel_rfl, rfl, by decide⟩
theorem libJoin (A : Option Addr) (n c B : Nat) (ls : List (List UInt8)) (sep : List UInt8) (w : World) (h : w.ownsRow B 9 1 (.slice A n c) n (ls.map str)) (hlen : (Lib.join ls sep).length ≤ 140737488355328) (hn : n ≤ 4000000000) :
    Calls Tryz.prog 24 #[.slice A n c, str sep] w (RetVal w (str (Lib.join ls sep))) := by
  have hl : ls.length = n := by have := own_len h; simpa using this
  rcases Nat.eq_zero_or_pos n with h0 | h0
  · subst h0
    have he : ls = [] := List.eq_nil_of_length_eq_zero hl
    subst he
    refine (Tryz.strings_Join_none A c ⟨sep.toArray⟩ w).mono ?_
    rintro e w' ⟨rfl, rfl⟩
    exact ⟨rfl, Below.refl _ _⟩
  · rcases h.2 with ⟨_, h1⟩ | ⟨g, cap, cur, hv, hg, hh, hnc, hm, hs, ht⟩
    · omega
    · injection hv with hA _ hc
      subst hA
      have e1 : (ls.map fun l => (⟨l.toArray⟩ : ByteArray)).length = n := by rw [List.length_map, hl]
      have e2 : ((ls.map fun l => (⟨l.toArray⟩ : ByteArray)).map (·.data.toList)) = ls := by rw [List.map_map]; exact List.map_id' ls
      have hcells : ∀ (j : Nat) x, (ls.map fun l => (⟨l.toArray⟩ : ByteArray))[j]? = some x → w.cell? ⟨g, 0 + j, none⟩ = some (.string x) := by
        intro j x hx
        have hj : j < n := by have := (List.getElem?_eq_some_iff.1 hx).1; omega
        rw [List.getElem?_map] at hx
        obtain ⟨l, hl1, rfl⟩ := Option.map_eq_some_iff.1 hx
        rw [Nat.zero_add, h.cellAt j (by omega), List.getElem?_map, hl1]
        rfl
      have hj := Tryz.strings_Join g 0 c (ls.map fun l => ⟨l.toArray⟩) ⟨sep.toArray⟩ w hcells (Array.getElem?_eq_some_iff.1 hh).1 (by rw [e1]; omega) (by rw [e1]; omega) (by rw [e2]; simpa using hlen)
      rw [e1, e2] at hj
      refine hj.mono ?_
      rintro e w' ⟨rfl, hb⟩
      exact ⟨rfl, hb⟩
end Go.Proofs.YtooiobcghobefaaGreatDoor
