/-
  Strictly ascending lists: one by their members; sorting and compacting gives one; a number put in its place.
  Conditions: as each theorem says.
-/
import Derived.Test.YtooiobcghobefaaGreatDoorWords
import Derived.Lib.SlicesCompact
namespace Go.Proofs.YtooiobcghobefaaGreatDoor
open Go.RowKit
set_option linter.unusedVariables false

abbrev SS (xs : List Int) : Prop := xs.Pairwise (· < ·)
theorem SS.uniq : ∀ {xs ys : List Int}, SS xs → SS ys → (∀ z, z ∈ xs ↔ z ∈ ys) → xs = ys
  | [], [], _, _, _ => rfl
  | [], y :: ys, _, _, h => absurd ((h y).2 (by simp)) (by simp)
  | x :: xs, [], _, _, h => absurd ((h x).1 (by simp)) (by simp)
  | x :: xs, y :: ys, h1, h2, h => by
    have p := List.pairwise_cons.1 h1
    have q := List.pairwise_cons.1 h2
    have e : x = y := by
      have a := (h x).1 (by simp)
      have b := (h y).2 (by simp)
      rcases List.mem_cons.1 a with a | a
      · exact a
      rcases List.mem_cons.1 b with b | b
      · exact b.symm
      have := q.1 x a
      have := p.1 y b
      omega
    subst e
    rw [SS.uniq p.2 q.2 fun z => ?_]
    constructor
    · intro hz
      rcases List.mem_cons.1 ((h z).1 (List.mem_cons_of_mem _ hz)) with e | e
      · have := p.1 z hz; omega
      · exact e
    · intro hz
      rcases List.mem_cons.1 ((h z).2 (List.mem_cons_of_mem _ hz)) with e | e
      · have := q.1 z hz; omega
      · exact e
theorem bang_at {zs : List Int} {j : Nat} (h : j < zs.length) : zs.toArray[j]! = zs[j] := by
  rw [getElem!_pos _ j (by simpa using h)]; simp
theorem sorted_le {zs : List Int} (hs : zs.Pairwise (· ≤ ·)) {i j : Nat} (hij : i ≤ j) (hj : j < zs.length) : zs[i]'(by omega) ≤ zs[j] := by
  rcases Nat.lt_or_ge i j with h | h
  · exact List.pairwise_iff_getElem.1 hs i j (by omega) hj h
  · obtain rfl : i = j := by omega
    exact Int.le_refl _
theorem compactUp_sorted (zs : List Int) (hs : zs.Pairwise (· ≤ ·)) : ∀ m, m ≤ zs.length → SS (Lib.compactUpTo zs.toArray m) ∧ ∀ z, z ∈ Lib.compactUpTo zs.toArray m ↔ ∃ j, j < m ∧ zs[j]? = some z
  | 0, _ => ⟨by simp [Lib.compactUpTo], fun z => by simp [Lib.compactUpTo]⟩
  | m + 1, hm => by
    obtain ⟨h1, h2⟩ := compactUp_sorted zs hs m (by omega)
    have hmz : zs[m]? = some zs[m] := List.getElem?_eq_getElem (by omega)
    rw [Lib.compactUpTo_succ]
    cases hk : Lib.keeps zs.toArray m
    · have hm0 : 0 < m := by
        rcases Nat.eq_zero_or_pos m with h | h
        · rw [Lib.keeps_lt_one _ m (by omega)] at hk; cases hk
        · exact h
      have he : zs[m] = zs[m-1]'(by omega) := by
        have : zs.toArray[m]! = zs.toArray[m-1]! := by
          by_cases h : zs.toArray[m]! = zs.toArray[m-1]!
          · exact h
          · rw [Lib.keeps_pos h] at hk; cases hk
        rwa [bang_at (by omega), bang_at (by omega)] at this
      simp only [Bool.false_eq_true, if_false, List.append_nil]
      refine ⟨h1, fun z => (h2 z).trans ⟨fun ⟨j, a, b⟩ => ⟨j, by omega, b⟩, fun ⟨j, a, b⟩ => ?_⟩⟩
      rcases Nat.lt_or_ge j m with h | h
      · exact ⟨j, h, b⟩
      · obtain rfl : j = m := by omega
        rw [hmz, he] at b
        exact ⟨j - 1, by omega, by rw [List.getElem?_eq_getElem (by omega)]; exact b⟩
    · simp only [if_true]
      rw [bang_at (by omega)]
      refine ⟨List.pairwise_append.2 ⟨h1, by simp, fun a ha b hb => ?_⟩, fun z => ?_⟩
      · obtain ⟨j, hj, hja⟩ := (h2 a).1 ha
        have hb' : b = zs[m] := by simpa using hb
        have haj : a = zs[j]'(by omega) := by rw [List.getElem?_eq_getElem (by omega)] at hja; exact (Option.some.inj hja).symm
        have l1 := sorted_le hs (show j ≤ m - 1 by omega) (show m - 1 < zs.length by omega)
        have l2 := sorted_le hs (show m - 1 ≤ m by omega) (show m < zs.length by omega)
        have hne : zs[m] ≠ zs[m-1]'(by omega) := by
          intro he
          have : zs.toArray[m]! = zs.toArray[m-1]! := by rw [bang_at (by omega), bang_at (by omega)]; exact he
          rw [Lib.keeps_neg (by omega) this] at hk
          cases hk
        omega
      · rw [List.mem_append, h2]
        constructor
        · rintro (⟨j, a, b⟩ | h)
          · exact ⟨j, by omega, b⟩
          · have h' : z = zs[m] := by simpa using h
            exact ⟨m, by omega, by rw [hmz, h']⟩
        · rintro ⟨j, a, b⟩
          rcases Nat.lt_or_ge j m with h | h
          · exact .inl ⟨j, h, b⟩
          · obtain rfl : j = m := by omega
            rw [hmz] at b
            exact .inr (by simpa using (Option.some.inj b).symm)
theorem compact_len (zs : List Int) : (Lib.compact zs).length ≤ zs.length := by
  unfold Lib.compact Lib.compactUpTo
  rw [List.length_map]
  exact Nat.le_trans (List.length_filter_le _ _) (by simp)
/-- The different numbers of a list in ascending order. -/
def distL (xs : List Int) : List Int := Lib.compact (xs.mergeSort fun x y => decide (x ≤ y))
theorem distL_ok (xs : List Int) : SS (distL xs) ∧ ∀ z, z ∈ distL xs ↔ z ∈ xs := by
  have hs : (xs.mergeSort fun x y => decide (x ≤ y)).Pairwise (· ≤ ·) := by
    have := List.pairwise_mergeSort (le := fun x y : Int => decide (x ≤ y)) (fun a b c h1 h2 => by simp at *; omega) (fun a b => by simp; omega) xs
    exact this.imp fun h => by simpa using h
  obtain ⟨h1, h2⟩ := compactUp_sorted _ hs _ (Nat.le_refl _)
  refine ⟨h1, fun z => (h2 z).trans ?_⟩
  rw [← List.Perm.mem_iff (List.mergeSort_perm xs fun x y => decide (x ≤ y))]
  constructor
  · rintro ⟨j, a, b⟩; exact List.mem_of_getElem? b
  · intro h
    obtain ⟨j, hj⟩ := List.getElem?_of_mem h
    exact ⟨j, (List.getElem?_eq_some_iff.1 hj).1, hj⟩
theorem distL_len (xs : List Int) : (distL xs).length ≤ xs.length := by
  have := compact_len (xs.mergeSort fun x y => decide (x ≤ y))
  rw [List.length_mergeSort] at this
  exact this
/-- x stands in its place j. -/
theorem put_ok {xs : List Int} {x : Int} {j : Nat} (hs : SS xs) (hno : x ∉ xs) (hj : j ≤ xs.length) (hl : ∀ i z, i < j → xs[i]? = some z → z ≤ x) (hr : ∀ z, xs[j]? = some z → x < z) :
    SS (xs.take j ++ x :: xs.drop j) ∧ ∀ z, z ∈ xs.take j ++ x :: xs.drop j ↔ z ∈ xs ∨ z = x := by
  have hm : ∀ z, z ∈ xs.take j ++ x :: xs.drop j ↔ z ∈ xs ∨ z = x := by
    intro z
    conv => rhs; rw [← List.take_append_drop j xs]
    simp only [List.mem_append, List.mem_cons]
    constructor
    · rintro (h | h | h)
      · exact .inl (.inl h)
      · exact .inr h
      · exact .inl (.inr h)
    · rintro ((h | h) | h)
      · exact .inl h
      · exact .inr (.inr h)
      · exact .inr (.inl h)
  refine ⟨?_, hm⟩
  have hsp := hs
  rw [← List.take_append_drop j xs] at hsp
  obtain ⟨p1, p2, p3⟩ := List.pairwise_append.1 hsp
  have hA : ∀ a ∈ xs.take j, a < x := by
    intro a ha
    obtain ⟨i, hi⟩ := List.getElem?_of_mem ha
    rw [List.getElem?_take] at hi
    split at hi
    · have h1 := hl i a (by assumption) hi
      have h2 : a ≠ x := fun e => hno (e ▸ List.mem_of_mem_take ha)
      omega
    · cases hi
  have hB : ∀ b ∈ xs.drop j, x < b := by
    intro b hb
    rcases Nat.lt_or_ge j xs.length with h | h
    · have h0 := hr _ (List.getElem?_eq_getElem h)
      rw [List.drop_eq_getElem_cons h] at hb p2
      rcases List.mem_cons.1 hb with e | e
      · rw [e]; exact h0
      · have := (List.pairwise_cons.1 p2).1 b e; omega
    · rw [List.drop_eq_nil_of_le h] at hb; cases hb
  refine List.pairwise_append.2 ⟨p1, List.pairwise_cons.2 ⟨hB, p2⟩, fun a ha b hb => ?_⟩
  rcases List.mem_cons.1 hb with e | e
  · rw [e]; exact hA a ha
  · exact p3 a ha b e
/-- What 'put' hands back. -/
def PutP (xs : List Int) (x : Int) (ys : List Int) : Prop := (SS xs → SS ys ∧ ∀ z, z ∈ ys ↔ z ∈ xs ∨ z = x) ∧ ys.length ≤ xs.length + 1
end Go.Proofs.YtooiobcghobefaaGreatDoor
