/-
  Walk of the reference's cut of a text at a byte.
  Conditions: as each theorem says.
-/
import Derived.Test.YtooiobcghobefaaGreatDoorWords
namespace Go.Proofs.YtooiobcghobefaaGreatDoor
open Go.RowKit
set_option linter.unusedVariables false

theorem elemStr : Elem Tryz.prog 43 9 (.string ⟨#[]⟩) 16 := ⟨Tryz.underlying43, by kernel_rfl, rfl, by decide⟩

def cutStep (c : UInt8) (s : List (List UInt8) × List UInt8) (x : UInt8) : List (List UInt8) × List UInt8 := if x = c then (s.1 ++ [s.2], []) else (s.1, s.2 ++ [x])
def cutS (c : UInt8) (l : List UInt8) : List (List UInt8) × List UInt8 := l.foldl (cutStep c) ([], [])
/-- The parts of a text between the bytes c. -/
def partsV (c : UInt8) (l : List UInt8) : List (List UInt8) := (cutS c l).1 ++ [(cutS c l).2]
theorem cutS_yes {c : UInt8} {l : List UInt8} {k : Nat} (h : l[k]? = some c) : cutS c (l.take (k + 1)) = ((cutS c (l.take k)).1 ++ [(cutS c (l.take k)).2], []) := by
  rw [List.take_add_one, h]; simp [cutS, cutStep]
theorem cutS_no {c x : UInt8} {l : List UInt8} {k : Nat} (h : l[k]? = some x) (hx : x ≠ c) : cutS c (l.take (k + 1)) = ((cutS c (l.take k)).1, (cutS c (l.take k)).2 ++ [x]) := by
  rw [List.take_add_one, h]; simp [cutS, cutStep, hx]
theorem cutS_len (c : UInt8) (l : List UInt8) : (cutS c l).1.length + (cutS c l).2.length ≤ l.length := by
  unfold cutS
  have : ∀ (l : List UInt8) (s : List (List UInt8) × List UInt8), (l.foldl (cutStep c) s).1.length + (l.foldl (cutStep c) s).2.length ≤ s.1.length + s.2.length + l.length := by
    intro l
    induction l with
    | nil => intro s; simp
    | cons x r ih =>
      intro s
      have := ih (cutStep c s x)
      have h2 : (cutStep c s x).1.length + (cutStep c s x).2.length ≤ s.1.length + s.2.length + 1 := by unfold cutStep; split <;> simp <;> omega
      simp only [List.foldl_cons, List.length_cons]
      omega
  simpa using this l ([], [])

theorem parts_len (c : UInt8) (l : List UInt8) : ∀ x ∈ partsV c l, x.length ≤ l.length := by
  have : ∀ (l : List UInt8) (s : List (List UInt8) × List UInt8) (m : Nat), (∀ x ∈ s.1, x.length ≤ m) → s.2.length ≤ m → (∀ x ∈ (l.foldl (cutStep c) s).1, x.length ≤ m + l.length) ∧ (l.foldl (cutStep c) s).2.length ≤ m + l.length := by
    intro l
    induction l with
    | nil => intro s m h1 h2; exact ⟨h1, h2⟩
    | cons y r ih =>
      intro s m h1 h2
      have := ih (cutStep c s y) (m + 1) (by
        intro x hx
        unfold cutStep at hx
        split at hx
        · simp at hx; rcases hx with hx | rfl
          · have := h1 x hx; omega
          · omega
        · have := h1 x hx; omega) (by unfold cutStep; split <;> simp; omega)
      simp only [List.foldl_cons, List.length_cons]
      refine ⟨fun x hx => ?_, ?_⟩
      · have := this.1 x hx; omega
      · have := this.2; omega
  intro x hx
  have h := this l ([], []) 0 (by simp) (by simp)
  unfold partsV at hx
  rw [List.mem_append] at hx
  rcases hx with hx | hx
  · have := h.1 x hx; omega
  · simp at hx; subst hx; have := h.2; unfold cutS; omega

end Go.Proofs.YtooiobcghobefaaGreatDoor