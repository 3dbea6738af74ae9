/-
  Plain laws of texts cut at a byte: the library's Split is the reference's cut.
  Conditions: as each theorem says.
-/
import Derived.Lib.SplitLaws
import Derived.Test.YtooiobcghobefaaGreatDoorCut
namespace Go.Proofs.YtooiobcghobefaaGreatDoor
open Go.RowKit Go.Lib
set_option linter.unusedVariables false

/-- The parts, by recursion. -/
def partsR (c : UInt8) : List UInt8 → List (List UInt8)
  | [] => [[]]
  | b :: l => if b = c then [] :: partsR c l else match partsR c l with
    | [] => [[b]]
    | p :: r => (b :: p) :: r
theorem partsR_ne (c : UInt8) : ∀ l, ∃ p r, partsR c l = p :: r
  | [] => ⟨_, _, rfl⟩
  | b :: l => by
    obtain ⟨p, r, h⟩ := partsR_ne c l
    rw [partsR]
    split
    · exact ⟨_, _, rfl⟩
    · rw [h]; exact ⟨_, _, rfl⟩
theorem partsR_yes (c : UInt8) (l : List UInt8) : partsR c (c :: l) = [] :: partsR c l := by rw [partsR, if_pos rfl]
theorem partsR_no {b c : UInt8} (h : b ≠ c) {l p : List UInt8} {r : List (List UInt8)} (hp : partsR c l = p :: r) : partsR c (b :: l) = (b :: p) :: r := by rw [partsR, if_neg h, hp]
theorem cut_eq (c : UInt8) : ∀ (l : List UInt8) (a : List (List UInt8)) (p q : List UInt8) (r : List (List UInt8)), partsR c l = q :: r → (l.foldl (cutStep c) (a, p)).1 ++ [(l.foldl (cutStep c) (a, p)).2] = a ++ ((p ++ q) :: r)
  | [], a, p, q, r, h => by
    rw [partsR] at h
    cases h
    simp
  | b :: l, a, p, q, r, h => by
    obtain ⟨q2, r2, h2⟩ := partsR_ne c l
    by_cases hb : b = c
    · subst hb
      rw [partsR_yes] at h
      cases h
      have := cut_eq b l (a ++ [p]) [] q2 r2 h2
      rw [List.foldl_cons, show cutStep b (a, p) b = (a ++ [p], []) by simp [cutStep], this, h2]
      simp
    · have := cut_eq c l a (p ++ [b]) q2 r2 h2
      rw [partsR_no hb h2] at h
      cases h
      rw [List.foldl_cons, show cutStep c (a, p) b = (a, p ++ [b]) by simp [cutStep, hb], this]
      simp
theorem partsV_eq (c : UInt8) (l : List UInt8) : partsV c l = partsR c l := by
  obtain ⟨q, r, h⟩ := partsR_ne c l
  have := cut_eq c l [] [] q r h
  unfold partsV cutS
  rw [this, h]; simp
theorem partsR_len (c : UInt8) : ∀ l, (partsR c l).length = l.count c + 1
  | [] => rfl
  | b :: l => by
    have ih := partsR_len c l
    by_cases hb : b = c
    · subst hb; rw [partsR_yes, List.length_cons, ih, List.count_cons_self]
    · obtain ⟨q, r, h⟩ := partsR_ne c l
      rw [partsR_no hb h, List.count_cons_of_ne (by simpa using hb), ← ih, h]; rfl
theorem partsV_len (c : UInt8) (l : List UInt8) : (partsV c l).length = l.count c + 1 := by rw [partsV_eq, partsR_len]
theorem index_eq0 (c : UInt8) (l : List UInt8) : index (c :: l) [c] = 0 := by rw [index]; simp [List.isPrefixOf]
theorem index_step {b c : UInt8} (h : b ≠ c) (l : List UInt8) : index (b :: l) [c] = if index l [c] == -1 then -1 else index l [c] + 1 := by
  have hp : ([c] : List UInt8).isPrefixOf (b :: l) = false := by simp [List.isPrefixOf, Ne.symm h]
  rw [index, hp]; simp
theorem split_parts (c : UInt8) : ∀ l, split l [c] = partsR c l
  | [] => by unfold split; rw [count_one]; rfl
  | b :: l => by
    have ih := split_parts c l
    by_cases hb : b = c
    · subst hb
      unfold split at ih ⊢
      rw [count_cons_eq, Nat.add_comm 1, splitK, index_eq0, if_neg (by decide), partsR_yes, ← ih]
      rfl
    · unfold split at ih ⊢
      rw [count_cons_ne b c l hb]
      cases hk : count l [c] with
      | zero =>
        rw [hk, splitK] at ih
        rw [splitK, partsR_no hb ih.symm]
      | succ k =>
        rw [hk, splitK] at ih
        by_cases hm : index l [c] = -1
        · rw [count_miss hm] at hk; cases hk
        · have hge := index_ge l [c]
          rw [if_neg (fun e => hm (beq_iff_eq.1 e))] at ih
          rw [splitK, index_step hb, if_neg (fun e => hm (beq_iff_eq.1 e)), if_neg (fun e => by have := beq_iff_eq.1 e; omega), partsR_no hb ih.symm]
          obtain ⟨j, hj⟩ : ∃ j : Nat, index l [c] = j := ⟨(index l [c]).toNat, by omega⟩
          rw [hj, show ((j : Int) + 1).toNat = j + 1 by omega, show ((j : Int)).toNat = j by omega]
          simp
theorem countB_one (l : List UInt8) (c : UInt8) : countB ⟨l.toArray⟩ ⟨#[c]⟩ = l.count c := by
  unfold countB
  exact count_one c l
end Go.Proofs.YtooiobcghobefaaGreatDoor
