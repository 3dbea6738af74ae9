/-
  The product of two partitions, as lists.
  Conditions: as each theorem says.
-/
import Derived.Test.YtkcckfpihpfbnaaClsP
import Derived.Test.YtkcckfpihpfbnaaIsPart
namespace Go.Proofs.Ytkcckfpihpfbnaa
open Go.RowKit
set_option linter.unusedVariables false

/-- Whether rows i and k lie in one class of p and in one of q. -/
def proS (p q : List (List Int)) (i k : Nat) : Bool := decide (0 ≤ clsV p i) && decide (0 ≤ clsV q i) && (clsV p i == clsV p k) && (clsV q i == clsV q k)
theorem proS_iff {p q : List (List Int)} {i k : Nat} : proS p q i k = true ↔ 0 ≤ clsV p i ∧ 0 ≤ clsV q i ∧ clsV p i = clsV p k ∧ clsV q i = clsV q k := by
  unfold proS
  rw [Bool.and_eq_true, Bool.and_eq_true, Bool.and_eq_true, decide_eq_true_eq, decide_eq_true_eq, beq_iff_eq, beq_iff_eq]
  exact ⟨fun ⟨⟨⟨a, b⟩, c⟩, d⟩ => ⟨a, b, c, d⟩, fun ⟨a, b, c, d⟩ => ⟨⟨⟨a, b⟩, c⟩, d⟩⟩
theorem proS_per (p q : List (List Int)) (n : Nat) : Per (proS p q) n where
  left a b c _ _ _ h1 h2 := by rw [proS_iff] at *; omega
  trans a b c _ _ _ h1 h2 := by rw [proS_iff] at *; omega
/-- What ProductOf answers. -/
noncomputable def proL (p q : List (List Int)) (rows : Int) : List (List Int) := if prtB (rows - 1) rows p && prtB (rows - 1) rows q then clsL (proS p q) rows.toNat rows.toNat else []
open Classical in
theorem prtB_parts {R rows : Int} {p : List (List Int)} (h : prtB R rows p = true) : PartP R p ∧ 0 ≤ rows ∧ rows ≤ 40 := by
  unfold prtB at h
  rw [Bool.and_eq_true, decide_eq_true_eq, Bool.and_eq_true, decide_eq_true_eq, decide_eq_true_eq] at h
  exact ⟨h.1, h.2.1, h.2.2⟩
theorem part_ss {R : Int} {p : List (List Int)} {k : Nat} {zs : List Int} (h : PartP R p) (hz : p[k]? = some zs) : SS zs := by
  obtain ⟨_, _, h3⟩ := h k zs hz
  refine List.pairwise_iff_getElem.2 fun i j hi hj hij => ?_
  have hx : zs[j]? = some zs[j] := List.getElem?_eq_getElem hj
  have := inc_lt (zs := zs) j zs[j] (fun m v _ hv y h0 hy => (h3 m v hv).2.2.1 y h0 hy) hx (fun y h0 hy => (h3 j _ hx).2.2.1 y h0 hy) zs[i] (List.mem_iff_getElem?.2 ⟨i, by rw [List.getElem?_take, if_pos hij]; exact List.getElem?_eq_getElem hi⟩)
  exact this
theorem part_cls {R : Int} {p : List (List Int)} {k : Nat} {zs : List Int} {x : Int} (h : PartP R p) (hz : p[k]? = some zs) (hx : x ∈ zs) : clsV p x = k ∧ 0 ≤ x ∧ x ≤ R := by
  obtain ⟨_, _, h3⟩ := h k zs hz
  obtain ⟨j, hj⟩ := List.getElem?_of_mem hx
  have := h3 j x hj
  exact ⟨(cls_in hz hx).2 this.2.2.2, this.1, this.2.1⟩
theorem cls_mem {x : Int} : ∀ (p : List (List Int)) (i : Int), 0 ≤ i → 0 ≤ clsFrom i p x → ∃ (k : Nat) (zs : List Int), clsFrom i p x = i + k ∧ p[k]? = some zs ∧ x ∈ zs
  | [], i, _, h => by simp [clsFrom] at h
  | zs :: l, i, hi, h => by
    unfold clsFrom at h ⊢
    split
    · rename_i hh
      exact ⟨0, zs, by omega, rfl, hasR_iff.1 hh⟩
    · rename_i hh
      rw [if_neg hh] at h
      obtain ⟨k, ys, h1, h2, h3⟩ := cls_mem l (i + 1) (by omega) h
      exact ⟨k + 1, ys, by rw [h1]; omega, by simpa using h2, h3⟩
theorem cls_get {x : Int} {p : List (List Int)} {a : Nat} (h : clsV p x = a) : ∃ zs, p[a]? = some zs ∧ x ∈ zs := by
  obtain ⟨k, zs, h1, h2, h3⟩ := cls_mem (x := x) p 0 (by omega) (by unfold clsV at h; omega)
  unfold clsV at h
  obtain rfl : k = a := by omega
  exact ⟨zs, h2, h3⟩
theorem clsTo_ss (S : Nat → Nat → Bool) (i n : Nat) : SS (clsTo S i n) := by
  unfold clsTo
  refine List.pairwise_cons.2 ⟨fun x hx => ?_, ?_⟩
  · obtain ⟨b, hb, rfl⟩ := List.mem_map.1 hx
    have := (List.mem_filter.1 hb).2
    rw [Bool.and_eq_true, decide_eq_true_eq] at this
    have h1 : (Int.ofNat b) = (b : Int) := rfl
    omega
  · refine List.pairwise_map.2 ((List.pairwise_lt_range.filter _).imp fun {a b} h => ?_)
    show (a : Int) < (b : Int)
    omega
/-- Row i's class of the product: the elements of its class in p that lie in its class in q. -/
theorem pro_class {p q : List (List Int)} {n i a b : Nat} {zs ys : List Int} (hp : PartP ((n : Int) - 1) p) (hq : PartP ((n : Int) - 1) q) (hi : i < n) (ha : clsV p i = a) (hb : clsV q i = b) (hz : p[a]? = some zs) (hy : q[b]? = some ys) (ht : tkB (proS p q) i i = false) :
    zs.filter (hasR ys) = clsTo (proS p q) i n := by
  refine SS.uniq ((part_ss hp hz).filter _) (clsTo_ss _ _ _) fun z => ?_
  rw [List.mem_filter, hasR_iff]
  unfold clsTo
  rw [List.mem_cons, List.mem_map]
  constructor
  · rintro ⟨h1, h2⟩
    obtain ⟨c1, r1, r2⟩ := part_cls hp hz h1
    obtain ⟨c2, _, _⟩ := part_cls hq hy h2
    obtain ⟨x, rfl⟩ : ∃ x : Nat, z = x := ⟨z.toNat, by omega⟩
    rcases Nat.lt_trichotomy x i with h | h | h
    · have : tkB (proS p q) i i = true := tkB_iff.2 ⟨x, h, h, proS_iff.2 ⟨by omega, by omega, by omega, by omega⟩⟩
      rw [ht] at this; cases this
    · exact .inl (by omega)
    · refine .inr ⟨x, List.mem_filter.2 ⟨List.mem_range.2 (by omega), ?_⟩, rfl⟩
      rw [Bool.and_eq_true, decide_eq_true_eq]
      exact ⟨h, proS_iff.2 ⟨by omega, by omega, by omega, by omega⟩⟩
  · rintro (rfl | ⟨x, hx, rfl⟩)
    · obtain ⟨zs', g1, g2⟩ := cls_get ha
      obtain ⟨ys', g3, g4⟩ := cls_get hb
      rw [hz] at g1; cases g1
      rw [hy] at g3; cases g3
      exact ⟨g2, g4⟩
    · have h1 := (List.mem_filter.1 hx).2
      rw [Bool.and_eq_true, proS_iff] at h1
      obtain ⟨_, _, _, e1, e2⟩ := h1
      obtain ⟨zs', g1, g2⟩ := cls_get (x := (x : Int)) (p := p) (a := a) (by omega)
      obtain ⟨ys', g3, g4⟩ := cls_get (x := (x : Int)) (p := q) (a := b) (by omega)
      rw [hz] at g1; cases g1
      rw [hy] at g3; cases g3
      exact ⟨g2, g4⟩
/-- What the reference has written down as done before row i. -/
def proD (p q : List (List Int)) (n i : Nat) : List Int := (List.range i).flatMap fun a : Nat => if decide (0 ≤ clsV p (a : Int)) && decide (0 ≤ clsV q (a : Int)) && !tkB (proS p q) a a then clsTo (proS p q) a n else []
theorem proD_yes {p q : List (List Int)} {n i : Nat} (h1 : 0 ≤ clsV p i) (h2 : 0 ≤ clsV q i) (h3 : tkB (proS p q) i i = false) : proD p q n (i + 1) = proD p q n i ++ clsTo (proS p q) i n := by
  unfold proD; rw [List.range_succ, List.flatMap_append]; simp [h1, h2, h3]
theorem proD_no {p q : List (List Int)} {n i : Nat} (h : ¬ (0 ≤ clsV p i ∧ 0 ≤ clsV q i ∧ tkB (proS p q) i i = false)) : proD p q n (i + 1) = proD p q n i := by
  unfold proD; rw [List.range_succ, List.flatMap_append]
  have : (decide (0 ≤ clsV p i) && decide (0 ≤ clsV q i) && !tkB (proS p q) i i) = false := by
    rw [Bool.eq_false_iff]
    intro hh
    rw [Bool.and_eq_true, Bool.and_eq_true, decide_eq_true_eq, decide_eq_true_eq] at hh
    exact h ⟨hh.1.1, hh.1.2, by simpa using hh.2⟩
  rw [List.flatMap_cons, this]
  simp
theorem proD_len (p q : List (List Int)) (n i : Nat) : (proD p q n i).length ≤ i * (n + 1) := by
  induction i with
  | zero => simp [proD]
  | succ i ih =>
    unfold proD at ih ⊢
    rw [List.range_succ, List.flatMap_append, List.length_append, Nat.succ_mul]
    have h1 := clsTo_len (proS p q) i n
    have : ([i].flatMap fun a : Nat => if decide (0 ≤ clsV p (a : Int)) && decide (0 ≤ clsV q (a : Int)) && !tkB (proS p q) a a then clsTo (proS p q) a n else []).length ≤ n + 1 := by
      simp only [List.flatMap_cons, List.flatMap_nil, List.append_nil]
      split
      · exact h1
      · simp
    omega
theorem proD_has {p q : List (List Int)} {n i : Nat} (hi : i < n) : hasR (proD p q n i) (i : Int) = tkB (proS p q) i i := by
  rw [Bool.eq_iff_iff, hasR_iff, tkB_iff]
  unfold proD
  rw [List.mem_flatMap]
  constructor
  · rintro ⟨a, ha, hm⟩
    have ha' := List.mem_range.1 ha
    split at hm
    · unfold clsTo at hm
      rcases List.mem_cons.1 hm with h | h
      · omega
      · obtain ⟨b, hb, hbe⟩ := List.mem_map.1 h
        have hbi : b = i := by have : (b : Int) = (i : Int) := hbe; omega
        subst hbi
        have := (List.mem_filter.1 hb).2
        rw [Bool.and_eq_true, decide_eq_true_eq] at this
        exact ⟨a, ha', ha', this.2⟩
    · cases hm
  · rintro ⟨a, ha, _, hS⟩
    have least : ∀ m, (∃ a, a ≤ m ∧ a < i ∧ proS p q a i = true) → ∃ a, a < i ∧ proS p q a i = true ∧ tkB (proS p q) a a = false := by
      intro m
      induction m with
      | zero =>
        rintro ⟨a, h1, h2, h3⟩
        obtain rfl : a = 0 := by omega
        exact ⟨0, h2, h3, by simp [tkB]⟩
      | succ m ih =>
        rintro ⟨a, h1, h2, h3⟩
        cases ht : tkB (proS p q) a a
        · exact ⟨a, h2, h3, ht⟩
        · obtain ⟨b, g1, _, g3⟩ := tkB_iff.1 ht
          exact ih ⟨b, by omega, by omega, (proS_per p q n).trans b a i g1 h2 hi g3 h3⟩
    obtain ⟨b, h1, h2, h3⟩ := least a ⟨a, Nat.le_refl _, ha, hS⟩
    refine ⟨b, List.mem_range.2 h1, ?_⟩
    obtain ⟨g1, g2, _⟩ := proS_iff.1 h2
    rw [h3]
    simp only [g1, g2, decide_true, Bool.and_self, Bool.not_false, if_true]
    unfold clsTo
    refine List.mem_cons_of_mem _ (List.mem_map.2 ⟨i, List.mem_filter.2 ⟨List.mem_range.2 hi, ?_⟩, rfl⟩)
    simp [h1, h2]
theorem clsTo_one {p q : List (List Int)} {i n : Nat} (h : ¬ (0 ≤ clsV p i ∧ 0 ≤ clsV q i)) : ¬ 1 < (clsTo (proS p q) i n).length := by
  unfold clsTo
  have : ((List.range n).filter fun b => decide (i < b) && proS p q i b) = [] := by
    refine List.filter_eq_nil_iff.2 fun b _ hb => ?_
    rw [Bool.and_eq_true, proS_iff] at hb
    exact h ⟨hb.2.1, hb.2.2.1⟩
  rw [this]
  simp
theorem part_in {R : Int} {p : List (List Int)} {x : Int} {a : Nat} (h : clsV p x = a) : ∃ zs, p[a]? = some zs ∧ x ∈ zs := cls_get h
end Go.Proofs.Ytkcckfpihpfbnaa
