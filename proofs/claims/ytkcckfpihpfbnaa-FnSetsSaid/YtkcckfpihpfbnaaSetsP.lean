/-
  Facts on sets as texts, sums and lists by size.
  Conditions: as each theorem says.
-/
import Derived.Test.YtkcckfpihpfbnaaParA
import Derived.Test.YtkcckfpihpfbnaaBySize3
import Derived.Test.YtkcckfpihpfbnaaDraw3
namespace Go.Proofs.Ytkcckfpihpfbnaa
open Go.RowKit
set_option linter.unusedVariables false

def parFmtB : Bool := (List.range 32).all fun x => parA (fmtA (x : Int)) == some x
theorem parFmtB_true : parFmtB = true := by decide +kernel
theorem parNilB : parA [] = none := by decide +kernel
theorem par_fmt (x : Int) : parV (fmtA x) = .tuple #[.int .i64 (if validB x then x else 0), .bool (validB x)] := by
  rcases hv : validB x with _ | _
  · rw [fmtA_bad hv]
    unfold parV
    rw [parNilB]
    rfl
  · have h := (validB_iff x).1 hv
    obtain ⟨k, rfl⟩ : ∃ k : Nat, x = k := ⟨x.toNat, by omega⟩
    have h2 := beq_iff_eq.1 (List.all_eq_true.1 parFmtB_true k (List.mem_range.2 (by omega)))
    unfold parV
    rw [h2]
    rfl
/-- The sum of the first k members' bits. -/
def sumM (x : Int) (k : Nat) : Nat := (((memL x).take k).map fun y => 2 ^ y.toNat).sum
theorem sumM_succ {x y : Int} {k : Nat} (h : (memL x)[k]? = some y) : sumM x (k + 1) = sumM x k + 2 ^ y.toNat := by
  unfold sumM
  rw [List.take_add_one, h, List.map_append, List.sum_append]
  simp
theorem sumM_le (x : Int) (k : Nat) : sumM x k ≤ 16 * k := by
  induction k with
  | zero => simp [sumM]
  | succ k ih =>
    cases h : (memL x)[k]? with
    | none =>
      have : sumM x (k + 1) = sumM x k := by unfold sumM; rw [List.take_add_one, h]; simp
      omega
    | some y =>
      rw [sumM_succ h]
      have hy := memL_mem x y (List.mem_of_getElem? h)
      have : (2 : Nat) ^ y.toNat ≤ 2 ^ 4 := Nat.pow_le_pow_right (by omega) (by omega)
      omega
def sumMB : Bool := (List.range 32).all fun x => sumM (x : Int) (memL (x : Int)).length == x
theorem sumMB_true : sumMB = true := by decide +kernel
theorem sumM_all (x : Int) (hv : validB x = true) : (sumM x (memL x).length : Int) = x := by
  have h := (validB_iff x).1 hv
  obtain ⟨k, rfl⟩ : ∃ k : Nat, x = k := ⟨x.toNat, by omega⟩
  have h2 := beq_iff_eq.1 (List.all_eq_true.1 sumMB_true k (List.mem_range.2 (by omega)))
  omega
/-- By size, and within a size ascending. -/
def ordB (M : Nat) : Bool := (List.range ((szL (2 ^ M) (M + 1) 0).length - 1)).all fun i => match (szL (2 ^ M) (M + 1) 0)[i]?, (szL (2 ^ M) (M + 1) 0)[i + 1]? with
  | some a, some b => decide (pcN a < pcN b) || (decide (pcN a = pcN b) && decide (a < b))
  | _, _ => false
theorem ordB_all : (List.range 6).all ordB = true := by decide +kernel
theorem lenB_all : (List.range 6).all (fun M => (szL (2 ^ M) (M + 1) 0).length == 2 ^ M) = true := by decide +kernel
theorem parts_ord {n : Int} {i : Nat} {a b : Int} (ha : (partsL n)[i]? = some a) (hb : (partsL n)[i + 1]? = some b) : (memL a).length < (memL b).length ∨ ((memL a).length = (memL b).length ∧ a < b) := by
  unfold partsL at ha hb
  split at ha
  · rename_i hg
    rw [if_pos hg] at hb
    obtain ⟨M, rfl⟩ : ∃ M : Nat, n = M := ⟨n.toNat, by omega⟩
    rw [show ((M : Int)).toNat = M by simp] at ha hb
    rw [List.getElem?_map] at ha hb
    obtain ⟨a', ha', rfl⟩ := Option.map_eq_some_iff.1 ha
    obtain ⟨b', hb', rfl⟩ := Option.map_eq_some_iff.1 hb
    have h := List.all_eq_true.1 ordB_all M (List.mem_range.2 (by omega))
    unfold ordB at h
    have hl := (List.getElem?_eq_some_iff.1 hb').1
    have h2 := List.all_eq_true.1 h i (List.mem_range.2 (by omega))
    rw [ha', hb'] at h2
    simp only [Bool.or_eq_true, Bool.and_eq_true, decide_eq_true_eq] at h2
    rcases h2 with h2 | ⟨h2, h3⟩
    · exact .inl h2
    · exact .inr ⟨h2, by show (a' : Int) < (b' : Int); omega⟩
  · simp at ha
theorem parts_len (n : Int) : (partsL n).length = if 0 ≤ n ∧ n ≤ 5 then 2 ^ n.toNat else 0 := by
  unfold partsL
  split
  · rename_i hg
    rw [List.length_map]
    exact beq_iff_eq.1 (List.all_eq_true.1 lenB_all n.toNat (List.mem_range.2 (by omega)))
  · rfl
theorem keep2 {w0 wc wn : World} {b o1 o2 : Nat} {x y : Value} (h1 : Below w0.heap.size w0 wc) (h2 : wc.cell? ⟨b, o1, none⟩ = some x) (h3 : wc.cell? ⟨b, o2, none⟩ = some y) (hb : b < w0.heap.size) (hn : Below wc.heap.size wc wn) :
    Below w0.heap.size w0 wn ∧ wn.cell? ⟨b, o1, none⟩ = some x ∧ wn.cell? ⟨b, o2, none⟩ = some y :=
  ⟨below_call h1 hn, cell_below hn h2 (Nat.lt_of_lt_of_le hb h1.size), cell_below hn h3 (Nat.lt_of_lt_of_le hb h1.size)⟩
end Go.Proofs.Ytkcckfpihpfbnaa
