/-
  The classes of a relation of rows, as lists.
  Conditions: as each theorem says.
-/
import Derived.Test.YtkcckfpihpfbnaaDistP
namespace Go.Proofs.Ytkcckfpihpfbnaa
open Go.RowKit
set_option linter.unusedVariables false

/-- Symmetric and transitive on the rows below n, spoken of pairs in order. -/
structure Per (S : Nat → Nat → Bool) (n : Nat) : Prop where
  left : ∀ a b c, a < b → b < c → c < n → S a c = true → S b c = true → S a b = true
  trans : ∀ a b c, a < b → b < c → c < n → S a b = true → S b c = true → S a c = true
/-- Whether row k stands with a row before i. -/
def tkB (S : Nat → Nat → Bool) (i k : Nat) : Bool := (List.range i).any fun a => decide (a < k) && S a k
theorem tkB_iff {S : Nat → Nat → Bool} {i k : Nat} : tkB S i k = true ↔ ∃ a, a < i ∧ a < k ∧ S a k = true := by
  unfold tkB; simp
theorem tkB_succ (S : Nat → Nat → Bool) (i k : Nat) : tkB S (i + 1) k = (tkB S i k || (decide (i < k) && S i k)) := by
  unfold tkB; rw [List.range_succ, List.any_append]; simp
/-- The same while row i's class is gathered, up to row q. -/
def tkI (S : Nat → Nat → Bool) (i q k : Nat) : Bool := tkB S i k || (decide (i < k) && decide (k < q) && S i k)
theorem tkI_start (S : Nat → Nat → Bool) (i k : Nat) : tkI S i (i + 1) k = tkB S i k := by
  unfold tkI
  by_cases h : i < k
  · have : ¬ k < i + 1 := by omega
    simp [this]
  · simp [h]
theorem tkI_end {S : Nat → Nat → Bool} {i n k : Nat} (hk : k < n) : tkI S i n k = tkB S (i + 1) k := by
  unfold tkI; rw [tkB_succ]; simp [hk]
theorem tkI_at (S : Nat → Nat → Bool) (i q : Nat) : tkI S i q q = tkB S i q := by unfold tkI; simp
theorem tkI_no {S : Nat → Nat → Bool} {i q : Nat} (h : S i q = false) (k : Nat) : tkI S i (q + 1) k = tkI S i q k := by
  unfold tkI
  by_cases hk : k = q
  · subst hk; simp [h]
  · have : (k < q + 1) ↔ (k < q) := by omega
    simp [this]
theorem tkI_yes {S : Nat → Nat → Bool} {i q : Nat} (h : S i q = true) (hi : i < q) (k : Nat) : tkI S i (q + 1) k = if k = q then true else tkI S i q k := by
  unfold tkI
  by_cases hk : k = q
  · subst hk; simp [h, hi]
  · have : (k < q + 1) ↔ (k < q) := by omega
    simp [this, hk]
theorem tk_skip {S : Nat → Nat → Bool} {n i k : Nat} (hP : Per S n) (hk : k < n) (ht : tkB S i i = true) : tkB S (i + 1) k = tkB S i k := by
  rw [tkB_succ]
  cases hh : (decide (i < k) && S i k)
  · simp
  · rw [Bool.and_eq_true, decide_eq_true_eq] at hh
    obtain ⟨a, h1, _, h3⟩ := tkB_iff.1 ht
    have : tkB S i k = true := tkB_iff.2 ⟨a, h1, by omega, hP.trans a i k h1 hh.1 hk h3 hh.2⟩
    rw [this]; rfl
theorem tk_no {S : Nat → Nat → Bool} {n i k : Nat} (hP : Per S n) (hik : i < k) (hk : k < n) (hh : tkB S i i = false) (ht : tkB S i k = true) : S i k = false := by
  cases hs : S i k
  · rfl
  · obtain ⟨a, h1, h2, h3⟩ := tkB_iff.1 ht
    have : tkB S i i = true := tkB_iff.2 ⟨a, h1, h1, hP.left a i k h1 hik hk h3 hs⟩
    rw [hh] at this; cases this
/-- Row i's class, gathered up to row q. -/
def clsTo (S : Nat → Nat → Bool) (i q : Nat) : List Int := (i : Int) :: ((List.range q).filter fun b => decide (i < b) && S i b).map Int.ofNat
theorem clsTo_start (S : Nat → Nat → Bool) (i : Nat) : clsTo S i (i + 1) = [(i : Int)] := by
  unfold clsTo
  have h : ((List.range (i + 1)).filter fun b => decide (i < b) && S i b) = [] := by
    refine List.filter_eq_nil_iff.2 fun b hb => ?_
    have := List.mem_range.1 hb
    have h2 : ¬ i < b := by omega
    simp [h2]
  rw [h]
  rfl
theorem clsTo_yes {S : Nat → Nat → Bool} {i q : Nat} (h : S i q = true) (hi : i < q) : clsTo S i (q + 1) = clsTo S i q ++ [(q : Int)] := by
  unfold clsTo; rw [List.range_succ, List.filter_append, List.map_append, List.cons_append]; simp [h, hi]
theorem clsTo_no {S : Nat → Nat → Bool} {i q : Nat} (h : S i q = false) : clsTo S i (q + 1) = clsTo S i q := by
  unfold clsTo; rw [List.range_succ, List.filter_append, List.map_append]; simp [h]
theorem clsTo_len (S : Nat → Nat → Bool) (i q : Nat) : (clsTo S i q).length ≤ q + 1 := by
  unfold clsTo
  rw [List.length_cons, List.length_map]
  have := List.length_filter_le (fun b => decide (i < b) && S i b) (List.range q)
  rw [List.length_range] at this
  omega
theorem clsTo_pos (S : Nat → Nat → Bool) (i q : Nat) : 0 < (clsTo S i q).length := by unfold clsTo; simp
/-- The classes of the rows before i. -/
def clsL (S : Nat → Nat → Bool) (n i : Nat) : List (List Int) := (List.range i).flatMap fun a => if !tkB S a a && decide (1 < (clsTo S a n).length) then [clsTo S a n] else []
theorem clsL_skip {S : Nat → Nat → Bool} {n i : Nat} (h : tkB S i i = true) : clsL S n (i + 1) = clsL S n i := by
  unfold clsL; rw [List.range_succ, List.flatMap_append]; simp [h]
theorem clsL_one {S : Nat → Nat → Bool} {n i : Nat} (h : ¬ 1 < (clsTo S i n).length) : clsL S n (i + 1) = clsL S n i := by
  unfold clsL; rw [List.range_succ, List.flatMap_append]; simp [h]
theorem clsL_yes {S : Nat → Nat → Bool} {n i : Nat} (h : tkB S i i = false) (h1 : 1 < (clsTo S i n).length) : clsL S n (i + 1) = clsL S n i ++ [clsTo S i n] := by
  unfold clsL; rw [List.range_succ, List.flatMap_append]; simp [h, h1]
theorem clsL_len (S : Nat → Nat → Bool) (n i : Nat) : (clsL S n i).length ≤ i := by
  induction i with
  | zero => simp [clsL]
  | succ i ih =>
    unfold clsL at ih ⊢
    rw [List.range_succ, List.flatMap_append, List.length_append]
    have : ([i].flatMap fun a => if !tkB S a a && decide (1 < (clsTo S a n).length) then [clsTo S a n] else []).length ≤ 1 := by
      simp only [List.flatMap_cons, List.flatMap_nil, List.append_nil]
      split <;> simp
    omega
theorem clsL_mem {S : Nat → Nat → Bool} {n i : Nat} {zs : List Int} (h : zs ∈ clsL S n i) : ∃ a, a < i ∧ tkB S a a = false ∧ zs = clsTo S a n := by
  unfold clsL at h
  obtain ⟨a, ha, hz⟩ := List.mem_flatMap.1 h
  have ha' := List.mem_range.1 ha
  split at hz
  · rename_i hc
    rw [Bool.and_eq_true] at hc
    exact ⟨a, ha', by simpa using hc.1, by simpa using hz⟩
  · cases hz
theorem map_set_bool (f g : Nat → Bool) (n q : Nat) (hg : ∀ k, k < n → g k = if k = q then true else f k) (hq : q < n) :
    ((List.range n).map fun k => Value.bool (f k)).set q (.bool true) = (List.range n).map fun k => Value.bool (g k) := by
  apply List.ext_getElem?
  intro k
  rw [List.getElem?_set, List.getElem?_map, List.getElem?_map]
  by_cases hk : k < n
  · rw [List.getElem?_range hk, Option.map_some, Option.map_some, hg k hk]
    by_cases hkq : q = k
    · subst hkq; simp [hk]
    · rw [if_neg hkq, if_neg (fun e => hkq e.symm)]
  · rw [if_neg (by omega), List.getElem?_eq_none (by simp; omega)]
    rfl
theorem map_bool_eq (f g : Nat → Bool) (n : Nat) (hg : ∀ k, k < n → g k = f k) : ((List.range n).map fun k => Value.bool (f k)) = (List.range n).map fun k => Value.bool (g k) :=
  List.map_congr_left fun k hk => by rw [hg k (List.mem_range.1 hk)]
end Go.Proofs.Ytkcckfpihpfbnaa
