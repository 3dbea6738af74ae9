/-
  Plain functions for sets of columns.
  Conditions: none; these are definitions and lemmas.
-/
import Derived.Test.YtooiobcghobefaaGreatDoorWords
namespace Go.Proofs.YtooiobcghobefaaGreatDoor

def isAttrB (n x : Int) : Bool := decide (0 ≤ n ∧ n ≤ 5 ∧ 0 ≤ x ∧ x < 2 ^ n.toNat)
def validB (x : Int) : Bool := isAttrB 5 x
theorem validB_iff (x : Int) : validB x = true ↔ 0 ≤ x ∧ x ≤ 31 := by
  unfold validB isAttrB
  rw [decide_eq_true_iff, show (5 : Int).toNat = 5 from rfl]
  omega
theorem validB_no (x : Int) : validB x = false ↔ x < 0 ∨ 31 < x := by
  rw [← Bool.not_eq_true, validB_iff]; omega
theorem validB_or (x : Int) : validB x = true ∨ validB x = false := by cases validB x <;> simp
theorem isAttrB_iff (n x : Int) : isAttrB n x = true ↔ 0 ≤ n ∧ n ≤ 5 ∧ 0 ≤ x ∧ x < 2 ^ n.toNat := decide_eq_true_iff
theorem isAttrB_le (n x : Int) (h : isAttrB n x = true) : 0 ≤ x ∧ x ≤ 31 := by
  rw [isAttrB_iff] at h
  obtain ⟨h1, h2, h3, h4⟩ := h
  have : n = 0 ∨ n = 1 ∨ n = 2 ∨ n = 3 ∨ n = 4 ∨ n = 5 := by omega
  refine ⟨h3, ?_⟩
  rcases this with rfl | rfl | rfl | rfl | rfl | rfl <;> simp at h4 <;> omega

/-- Is column k in the set x? In the walk's own words. -/
def hasB (x : Int) (k : Nat) : Bool := bits BinOp.and IntKind.i64 (x / 2 ^ k) 1 == 1
theorem hasB_def (x : Int) (k : Nat) : (bits BinOp.and IntKind.i64 (x / 2 ^ k) 1 == 1) = hasB x k := rfl
/-- Is every column of x in y? -/
def insB (x y : Int) : Bool := bits BinOp.andNot IntKind.i64 x y == 0
theorem insB_def (x y : Int) : (bits BinOp.andNot IntKind.i64 x y == 0) = insB x y := rfl
/-- The columns below k that are in x. -/
def memK (x : Int) (k : Nat) : List Int := ((List.range k).filter (hasB x)).map Int.ofNat
def memL (x : Int) : List Int := if validB x = true then memK x 5 else []
theorem memK_yes (x : Int) (k : Nat) (h : hasB x k = true) : memK x (k + 1) = memK x k ++ [(k : Int)] := by
  simp [memK, List.range_succ, List.filter_append, h]
theorem memK_no (x : Int) (k : Nat) (h : hasB x k = false) : memK x (k + 1) = memK x k := by
  simp [memK, List.range_succ, List.filter_append, h]
theorem memK_len (x : Int) (k : Nat) : (memK x k).length ≤ k := by
  unfold memK
  rw [List.length_map]
  exact Nat.le_trans (List.length_filter_le _ _) (by simp)
theorem memL_yes (x : Int) (h : validB x = true) : memL x = memK x 5 := if_pos h
theorem memL_no (x : Int) (h : validB x = false) : memL x = [] := if_neg (by simp [h])
theorem memL_len (x : Int) : (memL x).length ≤ 5 := by
  rcases validB_or x with h | h
  · rw [memL_yes x h]; exact memK_len x 5
  · rw [memL_no x h]; simp
theorem memL_mem (x i : Int) (h : i ∈ memL x) : 0 ≤ i ∧ i ≤ 4 := by
  rcases validB_or x with hv | hv
  · rw [memL_yes x hv] at h
    unfold memK at h
    rw [List.mem_map] at h
    obtain ⟨k, hk, rfl⟩ := h
    have := List.mem_range.1 (List.mem_filter.1 hk).1
    exact ⟨Int.natCast_nonneg k, by show (k : Int) ≤ 4; omega⟩
  · rw [memL_no x hv] at h; cases h
/-- Whatever is so of the 32 numbers from 0 on is so of every valid set. -/
theorem all32 {p : Int → Prop} (h : ∀ k : Fin 32, p (k.val : Int)) (x : Int) (hx : 0 ≤ x ∧ x ≤ 31) : p x := by
  obtain ⟨n, rfl⟩ := Int.eq_ofNat_of_zero_le hx.1
  exact h ⟨n, by omega⟩
def partEqB : Bool := (List.range 32).all fun x => (List.range 32).all fun y => (insB x y == (bits BinOp.and IntKind.i64 (x : Int) (y : Int) == (x : Int)))
theorem partEq : partEqB = true := by decide +kernel
theorem ins_and (x y : Int) (hx : 0 ≤ x ∧ x ≤ 31) (hy : 0 ≤ y ∧ y ≤ 31) : insB x y = (bits BinOp.and IntKind.i64 x y == x) := by
  have h := partEq
  unfold partEqB at h
  rw [List.all_eq_true] at h
  obtain ⟨n, rfl⟩ := Int.eq_ofNat_of_zero_le hx.1
  obtain ⟨m, rfl⟩ := Int.eq_ofNat_of_zero_le hy.1
  have h1 := h n (List.mem_range.2 (by omega))
  rw [List.all_eq_true] at h1
  have h2 := h1 m (List.mem_range.2 (by omega))
  exact beq_iff_eq.1 h2
def partB (x y : Int) : Bool := validB x && validB y && insB x y
end Go.Proofs.YtooiobcghobefaaGreatDoor
