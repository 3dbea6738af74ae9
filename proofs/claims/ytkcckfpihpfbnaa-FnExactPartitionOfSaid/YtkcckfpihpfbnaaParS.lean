/-
  Rows that agree in a set of columns: the relation is symmetric and transitive.
  Conditions: as each theorem says.
-/
import Derived.Test.YtkcckfpihpfbnaaClsP
import Derived.Test.YtkcckfpihpfbnaaAgS
import Derived.Test.YtkcckfpihpfbnaaWit
import Derived.Test.YtkcckfpihpfbnaaPart
namespace Go.Proofs.Ytkcckfpihpfbnaa
open Go.RowKit
set_option linter.unusedVariables false

def hasTB : Bool := (List.range 32).all fun x => (List.range 5).all fun y => (hasB (x : Int) y == x.testBit y)
theorem hasTB_true : hasTB = true := by decide +kernel
theorem has_test {x y : Nat} (hx : x < 32) (hy : y < 5) : hasB (x : Int) y = x.testBit y :=
  beq_iff_eq.1 (List.all_eq_true.1 (List.all_eq_true.1 hasTB_true x (List.mem_range.2 hx)) y (List.mem_range.2 hy))
def insTB : Bool := (List.range 32).all fun s => (List.range 32).all fun x => (insB (s : Int) (x : Int) == (List.range 5).all fun c => !s.testBit c || x.testBit c)
theorem insTB_true : insTB = true := by decide +kernel
theorem ins_test {s x : Nat} (hs : s < 32) (hx : x < 32) : insB (s : Int) (x : Int) = true ↔ ∀ c, c < 5 → s.testBit c = true → x.testBit c = true := by
  rw [beq_iff_eq.1 (List.all_eq_true.1 (List.all_eq_true.1 insTB_true s (List.mem_range.2 hs)) x (List.mem_range.2 hx)), List.all_eq_true]
  constructor
  · intro h c hc h1
    have := h c (List.mem_range.2 hc)
    rw [h1] at this
    simpa using this
  · intro h c hc
    have h1 := h c (List.mem_range.1 hc)
    cases h2 : s.testBit c
    · rfl
    · rw [h1 h2]; rfl
theorem agr_test (mode : Int) (xs ys : List Int) : ∀ m c, (agrN mode xs ys m).testBit c = (decide (c < m) && eqCB mode (xs.getD c 0) (ys.getD c 0))
  | 0, c => by simp [agrN]
  | m + 1, c => by
    have hl := agrN_lt mode xs ys m
    have ih := agr_test mode xs ys m
    have hl1 := agrN_lt mode xs ys (m + 1)
    rcases Nat.lt_trichotomy c m with h | h | h
    · rw [agrN]
      cases hq : eqCB mode (xs.getD m 0) (ys.getD m 0)
      · rw [cond_false, Nat.add_zero, ih]; simp [h, show c < m + 1 by omega]
      · rw [cond_true, Nat.add_comm, Nat.testBit_two_pow_add_gt h, ih]; simp [h, show c < m + 1 by omega]
    · subst h
      rw [agrN]
      cases hq : eqCB mode (xs.getD c 0) (ys.getD c 0)
      · rw [cond_false, Nat.add_zero, ih]; simp
      · rw [cond_true, Nat.add_comm, Nat.testBit_two_pow_add_eq, ih]; simp
    · rw [Nat.testBit_lt_two_pow (Nat.lt_of_lt_of_le hl1 (Nat.pow_le_pow_right (by omega) (by omega)))]
      simp [show ¬ c < m + 1 by omega]
theorem eqCB_parts {mode a b : Int} (h : eqCB mode a b = true) : a = b ∧ eqCB mode a a = true := by
  unfold eqCB at h ⊢
  rw [Bool.and_eq_true, Bool.and_eq_true] at h
  obtain ⟨⟨h1, h2⟩, h3⟩ := h
  exact ⟨by simpa using h2, by rw [h1, h3]; simp⟩
/-- Whether rows i and k agree in the columns of s. -/
def parS (mode : Int) (zss : List (List Int)) (M s i k : Nat) : Bool := insB (s : Int) (agV mode zss M i k)
theorem parS_iff {mode : Int} {zss : List (List Int)} {M s i k : Nat} (hM : M ≤ 5) (hs : s < 32) : parS mode zss M s i k = true ↔ ∀ c, c < 5 → s.testBit c = true → c < M ∧ eqCB mode ((zss.getD i []).getD c 0) ((zss.getD k []).getD c 0) = true := by
  unfold parS
  have h0 := agV_low (mode := mode) (zss := zss) hM i k
  obtain ⟨x, hx⟩ : ∃ x, x = agrN mode (zss.getD i []) (zss.getD k []) M := ⟨_, rfl⟩
  have hx2 : agV mode zss M i k = (x : Int) := by rw [hx]; rfl
  rw [hx2] at h0 ⊢
  rw [ins_test hs (by omega)]
  constructor
  · intro h c hc h1
    have := h c hc h1
    rw [hx, agr_test, Bool.and_eq_true, decide_eq_true_eq] at this
    exact this
  · intro h c hc h1
    have := h c hc h1
    rw [hx, agr_test, Bool.and_eq_true, decide_eq_true_eq]
    exact this
theorem parS_per (mode : Int) (zss : List (List Int)) (M s n : Nat) (hM : M ≤ 5) (hs : s < 32) : Per (parS mode zss M s) n where
  left a b c _ _ _ h1 h2 := by
    rw [parS_iff hM hs] at *
    intro d hd hsd
    obtain ⟨g1, g2⟩ := h1 d hd hsd
    obtain ⟨g3, g4⟩ := h2 d hd hsd
    obtain ⟨e1, e2⟩ := eqCB_parts g2
    obtain ⟨e3, e4⟩ := eqCB_parts g4
    exact ⟨g1, by rw [e3, ← e1]; exact e2⟩
  trans a b c _ _ _ h1 h2 := by
    rw [parS_iff hM hs] at *
    intro d hd hsd
    obtain ⟨g1, g2⟩ := h1 d hd hsd
    obtain ⟨g3, g4⟩ := h2 d hd hsd
    obtain ⟨e1, e2⟩ := eqCB_parts g2
    obtain ⟨e3, e4⟩ := eqCB_parts g4
    exact ⟨g1, by rw [← e3, ← e1]; exact e2⟩
theorem hasR_mem {zs : List Int} {x : Int} : hasR zs x = true ↔ x ∈ zs := by simp [hasR]
/-- What stands in the classes before row i. -/
theorem done_iff {S : Nat → Nat → Bool} {n i : Nat} (hP : Per S n) (hi : i < n) : hasR (clsL S n i).flatten (i : Int) = tkB S i i := by
  rw [Bool.eq_iff_iff, hasR_mem, tkB_iff, List.mem_flatten]
  constructor
  · rintro ⟨zs, hz, hm⟩
    obtain ⟨a, ha, _, rfl⟩ := clsL_mem hz
    unfold clsTo at hm
    rcases List.mem_cons.1 hm with h | h
    · omega
    · obtain ⟨b, hb, hbe⟩ := List.mem_map.1 h
      have hbi : b = i := by have : (b : Int) = (i : Int) := hbe; omega
      subst hbi
      have := (List.mem_filter.1 hb).2
      rw [Bool.and_eq_true, decide_eq_true_eq] at this
      exact ⟨a, ha, ha, this.2⟩
  · rintro ⟨a, ha, _, hS⟩
    -- the least such row
    have least : ∀ m, (∃ a, a ≤ m ∧ a < i ∧ S a i = true) → ∃ a, a < i ∧ S a i = true ∧ tkB S a a = false := by
      intro m
      induction m with
      | zero =>
        rintro ⟨a, h1, h2, h3⟩
        obtain rfl : a = 0 := by omega
        exact ⟨0, h2, h3, by simp [tkB]⟩
      | succ m ih =>
        rintro ⟨a, h1, h2, h3⟩
        cases ht : tkB S a a
        · exact ⟨a, h2, h3, ht⟩
        · obtain ⟨b, g1, _, g3⟩ := tkB_iff.1 ht
          exact ih ⟨b, by omega, by omega, hP.trans b a i g1 h2 hi g3 h3⟩
    obtain ⟨b, h1, h2, h3⟩ := least a ⟨a, Nat.le_refl _, ha, hS⟩
    have hmem : (i : Int) ∈ clsTo S b n := by
      unfold clsTo
      refine List.mem_cons_of_mem _ (List.mem_map.2 ⟨i, List.mem_filter.2 ⟨List.mem_range.2 hi, ?_⟩, rfl⟩)
      simp [h1, h2]
    refine ⟨clsTo S b n, ?_, hmem⟩
    unfold clsL
    refine List.mem_flatMap.2 ⟨b, List.mem_range.2 h1, ?_⟩
    have hlen : 1 < (clsTo S b n).length := by
      unfold clsTo at hmem ⊢
      rw [List.length_cons, List.length_map]
      rcases List.mem_cons.1 hmem with h | h
      · omega
      · obtain ⟨x, hx, _⟩ := List.mem_map.1 h
        have := List.length_pos_of_mem hx
        omega
    simp [h3, hlen]
end Go.Proofs.Ytkcckfpihpfbnaa
