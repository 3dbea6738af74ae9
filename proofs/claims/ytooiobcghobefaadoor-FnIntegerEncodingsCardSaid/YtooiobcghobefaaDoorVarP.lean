/-
  Plain laws of varints: which prefixes are encodings.
  Conditions: none; these are lemmas.
-/
import Derived.Test.YtooiobcghobefaaDoorNumC
namespace Go.Proofs.YtooiobcghobefaaDoor
def valL : List UInt8 → Nat
  | [] => 0
  | b :: l => b.toNat % 128 + 128 * valL l
theorem valL_lt : ∀ l : List UInt8, valL l < 128 ^ l.length
  | [] => by simp [valL]
  | b :: l => by
    have := valL_lt l
    rw [valL, List.length_cons, Nat.pow_succ]
    omega
theorem valL_snoc : ∀ (l : List UInt8) (b : UInt8), valL (l ++ [b]) = valL l + b.toNat % 128 * 128 ^ l.length
  | [], b => by simp [valL]
  | a :: l, b => by
    rw [List.cons_append, valL, valL, valL_snoc l b, List.length_cons, Nat.pow_succ, Nat.mul_add, ← Nat.mul_assoc, Nat.mul_comm 128 (b.toNat % 128), Nat.mul_assoc, Nat.mul_comm 128 (128 ^ l.length)]
    omega
/-- Is this list the encoding of a number? -/
def Good : List UInt8 → Prop
  | [] => False
  | [b] => b.toNat < 128
  | b :: c :: l => 128 ≤ b.toNat ∧ Good (c :: l) ∧ valL (c :: l) ≠ 0
theorem u8_eq {a b : UInt8} (h : a.toNat = b.toNat) : a = b := UInt8.toNat_inj.1 h
theorem ofNat_toNat (n : Nat) (h : n < 256) : (UInt8.ofNat n).toNat = n := by rw [UInt8.toNat_ofNat']; exact Nat.mod_eq_of_lt h
theorem var_of_good : ∀ (t : List UInt8) (f : Nat), Good t → t.length ≤ f + 1 → varF f (valL t) = t
  | [], _, h, _ => h.elim
  | [b], f, h, _ => by
    have hb : b.toNat < 128 := h
    have e : valL [b] = b.toNat := by simp [valL, Nat.mod_eq_of_lt hb]
    rw [e, varF_small f _ hb]
    simp
  | b :: c :: l, f, h, hf => by
    obtain ⟨h1, h2, h3⟩ := h
    obtain ⟨f', rfl⟩ : ∃ f', f = f' + 1 := ⟨f - 1, by simp at hf; omega⟩
    have ih := var_of_good (c :: l) f' h2 (by simp at hf ⊢; omega)
    have e : valL (b :: c :: l) = b.toNat % 128 + 128 * valL (c :: l) := rfl
    generalize valL (c :: l) = V at *
    have hb := u8_lt b
    rw [e, varF_big _ _ (by omega), show (b.toNat % 128 + 128 * V) / 128 = V by omega, ih]
    congr 1
    apply u8_eq
    rw [ofNat_toNat _ (by omega)]
    omega
theorem val_varF : ∀ (f n : Nat), n < 128 ^ (f + 1) → valL (varF f n) = n ∧ Good (varF f n)
  | 0, n, h => by
    have h' : n < 128 := by simpa using h
    rw [varF_small 0 n h']
    refine ⟨by simp [valL]; omega, ?_⟩
    show (UInt8.ofNat n).toNat < 128
    rw [ofNat_toNat n (by omega)]; exact h'
  | f + 1, n, h => by
    rcases Nat.lt_or_ge n 128 with hn | hn
    · rw [varF_small _ n hn]
      refine ⟨by simp [valL]; omega, ?_⟩
      show (UInt8.ofNat n).toNat < 128
      rw [ofNat_toNat n (by omega)]; exact hn
    · rw [varF_big f n hn]
      obtain ⟨i1, i2⟩ := val_varF f (n / 128) (div_pow_lt f n h)
      have e : (UInt8.ofNat (n % 128 + 128)).toNat = n % 128 + 128 := ofNat_toNat _ (by omega)
      refine ⟨?_, ?_⟩
      · rw [valL, i1, e]; omega
      · cases hv : varF f (n / 128) with
        | nil => rw [hv] at i2; exact i2.elim
        | cons c l =>
          rw [hv] at i1 i2
          exact ⟨by rw [e]; omega, i2, by rw [i1]; omega⟩
/-- The first bytes of l, up to place i, are an encoding. -/
def Stops (l : List UInt8) (i : Nat) : Prop := (∀ j, j < i → 128 ≤ (l[j]?.getD 0).toNat) ∧ (l[i]?.getD 0).toNat < 128 ∧ (i = 0 ∨ (l[i]?.getD 0).toNat ≠ 0)
theorem good_pos : ∀ t : List UInt8, Good t → (valL t = 0 ↔ t = [0])
  | [], h => h.elim
  | [b], h => by
    have hb : b.toNat < 128 := h
    simp only [valL, Nat.mul_zero, Nat.add_zero, Nat.mod_eq_of_lt hb, List.cons.injEq, and_true]
    constructor
    · intro h0; exact u8_eq h0
    · rintro rfl; rfl
  | b :: c :: l, h => by
    obtain ⟨h1, h2, h3⟩ := h
    constructor
    · intro h0
      rw [valL] at h0
      omega
    · intro h0; simp at h0
theorem good_iff : ∀ (l : List UInt8) (i : Nat), i < l.length → (Good (l.take (i + 1)) ↔ Stops l i)
  | [], i, h => by simp at h
  | b :: l, 0, _ => by simp [Good, Stops]
  | [b], i + 1, h => by simp at h
  | b :: c :: l, i + 1, h => by
    have hi : i < (c :: l).length := by simpa using h
    have ih := good_iff (c :: l) i hi
    have e : (b :: c :: l).take (i + 1 + 1) = b :: c :: l.take i := rfl
    have e2 : (c :: l).take (i + 1) = c :: l.take i := rfl
    rw [e]
    rw [e2] at ih
    unfold Good
    rw [ih]
    constructor
    · rintro ⟨h1, ⟨s1, s2, s3⟩, h3⟩
      refine ⟨fun j hj => ?_, by simpa using s2, .inr ?_⟩
      · cases j with
        | zero => simpa using h1
        | succ j => simpa using s1 j (by omega)
      · intro h0
        have h0' : ((c :: l)[i]?.getD 0).toNat = 0 := by simpa using h0
        rcases s3 with rfl | s3
        · have hc : c.toNat = 0 := by simpa using h0'
          apply h3
          simp [valL, hc]
        · exact s3 h0'
    · rintro ⟨s1, s2, s3⟩
      have t1 : Stops (c :: l) i := by
        refine ⟨fun j hj => by simpa using s1 (j + 1) (by omega), by simpa using s2, .inr ?_⟩
        rcases s3 with h0 | h0
        · omega
        · simpa using h0
      refine ⟨by simpa using s1 0 (by omega), t1, fun h0 => ?_⟩
      rw [(good_pos _ (ih.2 t1))] at h0
      rcases s3 with h1 | h1
      · omega
      · apply h1
        have hi0 : i = 0 := by
          simp only [List.cons.injEq, List.take_eq_nil_iff] at h0
          rcases h0.2 with h2 | h2
          · exact h2
          · subst h2; simp at hi; exact hi
        subst hi0
        simp only [List.cons.injEq] at h0
        simp [h0.1]
theorem var_take (l : List UInt8) (i : Nat) (h : i < l.length) (h7 : i < 7) : (varL (valL (l.take (i + 1)) : Int) == l.take (i + 1)) = true ↔ Stops l i := by
  have hlt : valL (l.take (i + 1)) < 128 ^ 7 := by
    have h1 := valL_lt (l.take (i + 1))
    have h2 : (l.take (i + 1)).length ≤ 7 := by rw [List.length_take]; omega
    exact Nat.lt_of_lt_of_le h1 (Nat.pow_le_pow_right (by omega) h2)
  have e : varL (valL (l.take (i + 1)) : Int) = varF 7 (valL (l.take (i + 1))) := by
    rw [varL_eq _ (by omega), Int.toNat_natCast]
  rw [e, beq_iff_eq, ← good_iff l i h]
  constructor
  · intro h1
    rw [← h1]
    exact (val_varF 7 _ (Nat.lt_of_lt_of_le hlt (by decide))).2
  · intro h1
    exact var_of_good _ 7 h1 (by rw [List.length_take]; omega)
instance (l : List UInt8) (i : Nat) : Decidable (Stops l i) := by unfold Stops; infer_instance
/-- What DecodeVarint answers. -/
def decV (l : List UInt8) : Nat × Nat := match (List.range 7).find? (fun i => decide (i < l.length) && decide (Stops l i)) with
  | some i => (valL (l.take (i + 1)), i + 1)
  | none => (0, 0)
theorem stops_one {l : List UInt8} {i k : Nat} (h : Stops l i) (g : Stops l k) : i = k := by
  rcases Nat.lt_trichotomy i k with hlt | rfl | hlt
  · have := g.1 i hlt; have := h.2.1; omega
  · rfl
  · have := h.1 k hlt; have := g.2.1; omega
theorem decV_at {l : List UInt8} {i : Nat} (h7 : i < 7) (hl : i < l.length) (h : Stops l i) : decV l = (valL (l.take (i + 1)), i + 1) := by
  unfold decV
  cases hf : (List.range 7).find? (fun i => decide (i < l.length) && decide (Stops l i)) with
  | none =>
    have := List.find?_eq_none.1 hf i (List.mem_range.2 h7)
    simp [hl, h] at this
  | some k =>
    have := List.find?_some hf
    simp at this
    rw [stops_one h this.2]
theorem decV_no {l : List UInt8} (h : ∀ i, i < 7 → i < l.length → ¬ Stops l i) : decV l = (0, 0) := by
  unfold decV
  cases hf : (List.range 7).find? (fun i => decide (i < l.length) && decide (Stops l i)) with
  | none => rfl
  | some k =>
    have h1 := List.find?_some hf
    have h2 := List.mem_of_find?_eq_some hf
    simp at h1
    exact absurd h1.2 (h k (List.mem_range.1 h2) h1.1)
theorem take_snocL (l : List UInt8) (k : Nat) (h : k < l.length) : l.take (k + 1) = l.take k ++ [l[k]?.getD 0] := by
  rw [List.take_succ_eq_append_getElem h, List.getElem?_eq_getElem h]; rfl
theorem valL_take (l : List UInt8) (k : Nat) (h : k < l.length) : valL (l.take (k + 1)) = valL (l.take k) + (l[k]?.getD 0).toNat % 128 * 128 ^ k := by
  rw [take_snocL l k h, valL_snoc, List.length_take, Nat.min_eq_left (by omega)]
theorem valL_drop (l : List UInt8) (i k : Nat) (h : i < k) (hk : k ≤ l.length) : valL ((l.take k).drop i) = (l[i]?.getD 0).toNat % 128 + 128 * valL ((l.take k).drop (i + 1)) := by
  rw [List.drop_eq_getElem_cons (by rw [List.length_take]; omega), valL, List.getElem_take, List.getElem?_eq_getElem (by omega)]
  rfl
theorem valL_bound (l : List UInt8) (k : Nat) (h : l.length ≤ k) : valL l < 128 ^ k := Nat.lt_of_lt_of_le (valL_lt l) (Nat.pow_le_pow_right (by omega) h)
theorem stop_zero {l : List UInt8} {k : Nat} (hno : ∀ j, j < k → 128 ≤ (l[j]?.getD 0).toNat) (h0 : (l[k]?.getD 0).toNat = 0) (hk : 0 < k) : decV l = (0, 0) := by
  refine decV_no fun i _ _ hs => ?_
  rcases Nat.lt_trichotomy i k with h | rfl | h
  · have := hno i h; have := hs.2.1; omega
  · rcases hs.2.2 with h | h
    · omega
    · exact h h0
  · have := hs.1 k h; omega
theorem stop_none {l : List UInt8} {k : Nat} (hno : ∀ j, j < k → 128 ≤ (l[j]?.getD 0).toNat) (h : 7 ≤ k ∨ l.length ≤ k) : decV l = (0, 0) := by
  refine decV_no fun i h7 hl hs => ?_
  have := hno i (by omega)
  have := hs.2.1
  omega
end Go.Proofs.YtooiobcghobefaaDoor
