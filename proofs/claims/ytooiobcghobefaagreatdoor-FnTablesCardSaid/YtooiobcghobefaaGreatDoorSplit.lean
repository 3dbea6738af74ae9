/-
  strings.Split at a separator of one byte.
  Conditions: as each theorem says.
-/
import Derived.Test.YtooiobcghobefaaGreatDoorSplP
import Derived.Test.YtooiobcghobefaaGreatDoorShelf
namespace Go.Proofs.YtooiobcghobefaaGreatDoor
open Go.RowKit Go.Lib
set_option linter.unusedVariables false

/-- What the library's Split leaves: the parts in a new row. -/
def RetSplit (c : UInt8) (l : List UInt8) (w : World) (e : Ending) (w' : World) : Prop :=
  ∃ N : Nat, e = .returned (.slice (some ⟨w.heap.size, 0, none⟩) N N) ∧ w'.ownsRow w.heap.size 9 1 (.slice (some ⟨w.heap.size, 0, none⟩) N N) N ((partsV c l).map str) ∧ Below w.heap.size w w'
theorem libSplit (c : UInt8) (l : List UInt8) (M : Int) (w : World) (hl : l.length ≤ 1048576) (hM : w.cell? ⟨0, 0, none⟩ = some (.int .i64 M)) :
    Calls Tryz.prog 25 #[str l, .string ⟨#[c]⟩] w (RetSplit c l w) := by
  have hsz : (⟨l.toArray⟩ : ByteArray).size = l.length := size_str l
  have hc : countB ⟨l.toArray⟩ ⟨#[c]⟩ = l.count c := countB_one l c
  have hsp : (splitB ⟨#[c]⟩ 0 (l.count c) ⟨l.toArray⟩).map (·.data.toList) = partsV c l := by
    rw [splitB_data, partsV_eq, ← split_parts]
    show splitK [c] 0 (l.count c) l = _
    unfold split
    rw [count_one]
  have h := Tryz.strings_Split ⟨l.toArray⟩ ⟨#[c]⟩ M w (by rw [hsz]; omega) hM (Nat.le_refl 1)
  rw [hc] at h
  refine h.mono ?_
  rintro e w' ⟨rfl, rfl⟩
  have e1 : ((splitB ⟨#[c]⟩ 0 (l.count c) ⟨l.toArray⟩).map Value.string).toArray.toList = (partsV c l).map str := by
    rw [← hsp, List.map_map]
    exact List.map_congr_left fun x _ => str_of x
  have e2 : (splitB ⟨#[c]⟩ 0 (l.count c) ⟨l.toArray⟩).length = l.count c + 1 := by
    have := congrArg List.length hsp
    rw [List.length_map, partsV_len] at this
    exact this
  have ho := World.ownsRow_lit (base := w.heap.size) (e := 9) (size := 1) w ((splitB ⟨#[c]⟩ 0 (l.count c) ⟨l.toArray⟩).map Value.string).toArray (l.count c + 1) (Nat.le_refl _) (by have := List.count_le_length (a := c) (l := l); unfold maxLen; omega) (by simp [e2])
  rw [e1] at ho
  exact ⟨l.count c + 1, rfl, ho, (Below.refl _ _).alloc (Nat.le_refl _) _⟩
end Go.Proofs.YtooiobcghobefaaGreatDoor
