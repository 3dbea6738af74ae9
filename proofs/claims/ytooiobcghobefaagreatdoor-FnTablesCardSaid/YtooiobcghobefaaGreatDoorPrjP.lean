/-
  Plain laws of projections: rows compared, a sorted list cut to its different rows, the parts of rows.
  Conditions: as each theorem says.
-/
import Derived.Shelf.SlSortCmp.Insertion
import Derived.Test.YtooiobcghobefaaGreatDoorOnceP
namespace Go.Proofs.YtooiobcghobefaaGreatDoor
open Go.RowKit Go.Sort
set_option linter.unusedVariables false

/-- What slices.Compare answers. -/
def cmpZ : List Int → List Int → Int
  | [], [] => 0
  | [], _ :: _ => -1
  | _ :: _, [] => 1
  | a :: x, b :: y => if a < b then -1 else if b < a then 1 else cmpZ x y
theorem cmpZ_lt : ∀ x y : List Int, decide (cmpZ x y < 0) = lexL x y
  | [], [] => rfl
  | [], _ :: _ => rfl
  | _ :: _, [] => rfl
  | a :: x, b :: y => by
    rw [cmpZ, lexL]
    by_cases h1 : a < b
    · rw [if_pos h1, if_neg (by omega)]; simp [h1]
    · by_cases h2 : b < a
      · rw [if_neg h1, if_pos h2, if_neg (by omega)]; simp; omega
      · have e : a = b := by omega
        rw [if_neg h1, if_neg h2, if_pos e]; exact cmpZ_lt x y
/-- Rows with what stands for them. -/
abbrev PR := Value × List Int
/-- The different ones of a list in order. -/
def cmpT (z : List Int) : List PR → List PR
  | [] => []
  | b :: r => if b.2 == z then cmpT b.2 r else b :: cmpT b.2 r
def cmpP : List PR → List PR
  | [] => []
  | a :: r => a :: cmpT a.2 r
def lastZ (z : List Int) : List PR → List Int
  | [] => z
  | a :: r => lastZ a.2 r
theorem lastZ_snoc (z : List Int) (a : PR) : ∀ l, lastZ z (l ++ [a]) = a.2
  | [] => rfl
  | b :: l => by rw [List.cons_append, lastZ]; exact lastZ_snoc _ a l
theorem cmpT_snoc (b : PR) : ∀ (l : List PR) (z : List Int), cmpT z (l ++ [b]) = cmpT z l ++ (if b.2 == lastZ z l then [] else [b])
  | [], z => by simp [cmpT, lastZ]
  | a :: l, z => by
    rw [List.cons_append, cmpT, cmpT, lastZ, cmpT_snoc b l a.2]
    split <;> simp
theorem cmpP_snoc (l : List PR) (a b : PR) : cmpP (l ++ [a] ++ [b]) = cmpP (l ++ [a]) ++ (if b.2 == a.2 then [] else [b]) := by
  cases l with
  | nil => simp [cmpP, cmpT]
  | cons c l =>
    rw [List.cons_append, List.cons_append, cmpP, cmpP, cmpT_snoc b (l ++ [a]) c.2, lastZ_snoc]; simp
theorem take_snoc2 {l : List PR} {j : Nat} {a : PR} (h : l[j]? = some a) : l.take (j + 1) = l.take j ++ [a] := by rw [List.take_add_one, h]; rfl
theorem cmpP_step {l : List PR} {j : Nat} {a b : PR} (ha : l[j]? = some a) (hb : l[j + 1]? = some b) : cmpP (l.take (j + 2)) = cmpP (l.take (j + 1)) ++ (if b.2 == a.2 then [] else [b]) := by
  rw [take_snoc2 hb, take_snoc2 ha]; exact cmpP_snoc _ _ _
theorem cmpT_sub (l : List PR) : ∀ z, (cmpT z l).Sublist l := by
  induction l with
  | nil => intro z; exact List.Sublist.refl _
  | cons b r ih =>
    intro z
    rw [cmpT]
    split
    · exact (ih _).cons _
    · exact (ih _).cons_cons _
theorem cmpP_sub : ∀ l, (cmpP l).Sublist l
  | [] => List.Sublist.refl _
  | a :: r => (cmpT_sub r a.2).cons_cons _
theorem cmpP_one (l : List PR) : cmpP (l.take 1) = l.take 1 := by
  cases l with
  | nil => rfl
  | cons a l => simp [cmpP, cmpT]
/-- No row is below one that stands ahead of it. -/
def SrtZ (l : List PR) : Prop := l.Pairwise fun x y => lexL y.2 x.2 = false
theorem cmpT_ok : ∀ (l : List PR) (z : List Int), SrtZ l → (∀ b ∈ l, lexL b.2 z = false) → ((cmpT z l).Pairwise fun x y => lexL x.2 y.2 = true) ∧ (∀ b ∈ cmpT z l, lexL z b.2 = true) ∧ ∀ w, (w = z ∨ w ∈ l.map (·.2)) ↔ (w = z ∨ w ∈ (cmpT z l).map (·.2))
  | [], z, _, _ => ⟨List.Pairwise.nil, (fun _ h => by cases h), fun _ => Iff.rfl⟩
  | b :: r, z, hs, hz => by
    obtain ⟨a1, a2⟩ := List.pairwise_cons.1 hs
    rw [cmpT]
    by_cases h : b.2 = z
    · obtain ⟨i1, i2, i3⟩ := cmpT_ok r b.2 a2 a1
      rw [if_pos (by simpa using h)]
      rw [h] at i1 i2 i3 ⊢
      refine ⟨i1, i2, fun w => ?_⟩
      rw [← i3 w, List.map_cons, List.mem_cons, h]
      constructor
      · rintro (q | q | q) <;> simp [q]
      · rintro (q | q) <;> simp [q]
    · obtain ⟨i1, i2, i3⟩ := cmpT_ok r b.2 a2 a1
      rw [if_neg (by simpa using h)]
      have hzb : lexL z b.2 = true := by
        cases q : lexL z b.2
        · exact absurd (lexL_total (hz b (by simp)) q) h
        · rfl
      refine ⟨List.pairwise_cons.2 ⟨i2, i1⟩, fun c hc => ?_, fun w => ?_⟩
      · rcases List.mem_cons.1 hc with e | e
        · rw [e]; exact hzb
        · exact lexL_trans hzb (i2 c e)
      · have := i3 w
        rw [List.map_cons, List.map_cons, List.mem_cons, List.mem_cons]
        constructor
        · rintro (q | q)
          · exact .inl q
          · exact .inr (this.1 q)
        · rintro (q | q)
          · exact .inl q
          · exact .inr (this.2 q)
/-- A sorted list, cut, is its different rows in order. -/
theorem cmpP_once {l : List PR} (hs : SrtZ l) : (cmpP l).map (·.2) = onceL (l.map (·.2)) := by
  cases l with
  | nil => rfl
  | cons a r =>
    obtain ⟨a1, a2⟩ := List.pairwise_cons.1 hs
    obtain ⟨i1, i2, i3⟩ := cmpT_ok r a.2 a2 a1
    refine SSL.once ?_ fun z => ?_
    · rw [cmpP, List.map_cons]
      refine List.pairwise_cons.2 ⟨fun z hz => ?_, ?_⟩
      · obtain ⟨c, hc, rfl⟩ := List.mem_map.1 hz
        exact i2 c hc
      · rw [List.pairwise_map]; exact i1
    · rw [cmpP, List.map_cons, List.map_cons, List.mem_cons, List.mem_cons]
      exact (i3 z).symm
theorem onceL_perm {a b : List (List Int)} (h : a.Perm b) : onceL a = onceL b := (onceL_ss a).uniq (onceL_ss b) fun z => by rw [onceL_mem, onceL_mem]; exact h.mem_iff
/-- The part of a row. -/
def prjRow (ms : List Int) (zs : List Int) : List Int := ms.map fun c => zs.getD c.toNat 0
theorem prjRow_step {ms zs : List Int} {k : Nat} {c : Int} (h : ms[k]? = some c) : prjRow (ms.take (k + 1)) zs = prjRow (ms.take k) zs ++ [zs.getD c.toNat 0] := by
  unfold prjRow; rw [List.take_add_one, h]; simp
theorem prjRow_len (ms zs : List Int) : (prjRow ms zs).length = ms.length := by simp [prjRow]
end Go.Proofs.YtooiobcghobefaaGreatDoor
