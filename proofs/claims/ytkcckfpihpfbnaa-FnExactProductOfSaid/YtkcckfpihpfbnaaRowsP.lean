/-
  Lists of lists that grow by append beside another list of numbers that grows.
  Conditions: as each theorem says.
-/
import Derived.Test.YtkcckfpihpfbnaaRowsU
namespace Go.Proofs.Ytkcckfpihpfbnaa
open Go.RowKit
set_option linter.unusedVariables false

def RowsW (w : World) (B : Nat) (P : Nat → Prop) (A : Option Addr) (n c : Nat) (zss : List (List Int)) (vs : List Value) : Prop :=
  w.ownsRow B 29 1 (.slice A n c) n vs ∧
    (∀ (i : Nat) (zs : List Int), zss[i]? = some zs → ∃ (A' : Option Addr) (c' : Nat), vs[i]? = some (Value.slice A' zs.length c') ∧ w.ownsRow B 3 1 (.slice A' zs.length c') zs.length (zs.map (Value.int .i64)) ∧ ∀ k, (Value.slice A' zs.length c').ownBlock = some k → P k) ∧
    ∀ (i j : Nat) (u v : Value), i ≠ j → vs[i]? = some u → vs[j]? = some v → u.ownBlock = none ∨ u.ownBlock ≠ v.ownBlock
def RowsP (w : World) (B : Nat) (P : Nat → Prop) (A : Option Addr) (n c : Nat) (zss : List (List Int)) : Prop := zss.length = n ∧ ∃ vs, RowsW w B P A n c zss vs
theorem RowsP.start (w : World) (P : Nat → Prop) : RowsP (w.alloc (.cells #[] 29)) w.heap.size P (some ⟨w.heap.size, 0, none⟩) 0 0 [] :=
  ⟨rfl, [], own_start w _, (fun i zs hi => by simp at hi), (fun i j u v _ hu => by simp at hu)⟩
section
variable {w w' : World} {B n c : Nat} {P P' : Nat → Prop} {A : Option Addr} {zss : List (List Int)}
theorem RowsP.below (h : RowsP w B P A n c zss) (hb : Below w.heap.size w w') : RowsP w' B P A n c zss := by
  obtain ⟨h1, vs, h2, h3, h4⟩ := h
  refine ⟨h1, vs, own_below h2 hb, fun i zs hi => ?_, h4⟩
  obtain ⟨A', c', h5, h6, h7⟩ := h3 i zs hi
  exact ⟨A', c', h5, own_below h6 hb, h7⟩
theorem RowsP.more {B' : Nat} (h : RowsP w B P A n c zss) (hB : B' ≤ B) : RowsP w B' P A n c zss := by
  obtain ⟨h1, vs, h2, h3, h4⟩ := h
  refine ⟨h1, vs, own_more h2 hB, fun i zs hi => ?_, h4⟩
  obtain ⟨A', c', h5, h6, h7⟩ := h3 i zs hi
  exact ⟨A', c', h5, own_more h6 hB, h7⟩
theorem RowsP.weak (h : RowsP w B P A n c zss) (hP : ∀ k, k < w.heap.size → P k → P' k) : RowsP w B P' A n c zss := by
  obtain ⟨h1, vs, h2, h3, h4⟩ := h
  refine ⟨h1, vs, h2, fun i zs hi => ?_, h4⟩
  obtain ⟨A', c', h5, h6, h7⟩ := h3 i zs hi
  exact ⟨A', c', h5, h6, fun k hk => hP k (h6.lt k hk).2 (h7 k hk)⟩
theorem RowsP.own (h : RowsP w B P A n c zss) : OwnRows w B A n c zss := by
  obtain ⟨h1, vs, h2, h3, h4⟩ := h
  refine ⟨h1, vs, h2, fun i zs hi => ?_, h4⟩
  obtain ⟨A', c', h5, h6, h7⟩ := h3 i zs hi
  exact ⟨A', c', h5, h6⟩
/-- A row of other things, or a row apart, has turned. -/
theorem RowsP.other {B' e m : Nat} {v : Value} {xs : List Value} (h : RowsP w B P A n c zss) (ho : w.ownsRow B' e 1 v m xs) (hne : e ≠ 29) (hrow : e ≠ 3 ∨ ∀ k, v.ownBlock = some k → ¬ P k) (hg : w.grownBy w' v.ownBlock) : RowsP w' B P A n c zss := by
  obtain ⟨h1, vs, h2, h3, h4⟩ := h
  refine ⟨h1, vs, h2.kept hg (own_types h2 ho (fun e => hne e.symm)), fun i zs hi => ?_, h4⟩
  obtain ⟨A', c', h5, h6, h7⟩ := h3 i zs hi
  refine ⟨A', c', h5, h6.kept hg ?_, h7⟩
  rcases hrow with hr | hr
  · exact own_types h6 ho (fun e => hr e.symm)
  · rcases hq : (Value.slice A' zs.length c').ownBlock with _ | q
    · exact .inl rfl
    · exact .inr fun he => hr q he.symm (h7 q hq)
/-- One list more. -/
theorem RowsP.push {vs : List Value} {A1 A2 : Option Addr} {n1 c1 c2 : Nat} {zs : List Int} (lz : zss.length = n) (h : RowsW w B P A n c zss vs)
    (hc : w.ownsRow B 3 1 (.slice A1 n1 c1) n1 (zs.map (Value.int .i64))) (hH : ∀ k, (Value.slice A1 n1 c1).ownBlock = some k → ¬ P k)
    (ho : w'.ownsRow B 29 1 (.slice A2 (n + 1) c2) (n + 1) (vs ++ [.slice A1 n1 c1])) (hg : w.grownBy w' (Value.slice A n c).ownBlock) : RowsP w' B (fun k => P k ∨ (Value.slice A1 n1 c1).ownBlock = some k) A2 (n + 1) c2 (zss ++ [zs]) := by
  obtain ⟨h2, h3, h4⟩ := h
  have lv := own_len h2
  have lc : zs.length = n1 := by have := own_len hc; simpa using this
  subst lc
  have hkeep : ∀ {m : Nat} {v : Value} {xs : List Value}, w.ownsRow B 3 1 v m xs → w'.ownsRow B 3 1 v m xs := fun {m v xs} h6 => h6.kept hg (own_types h6 h2 (by decide))
  have hbl : ∀ u, u ∈ vs → ∀ k, u.ownBlock = some k → P k := by
    intro u hu k hk
    obtain ⟨i, hi⟩ := List.getElem?_of_mem hu
    have hil : i < zss.length := by have := (List.getElem?_eq_some_iff.1 hi).1; omega
    obtain ⟨A', c', h5, h6, h7⟩ := h3 i _ (List.getElem?_eq_getElem hil)
    rw [hi] at h5
    cases h5
    exact h7 k hk
  refine ⟨by rw [List.length_append, lz]; rfl, vs ++ [.slice A1 zs.length c1], ho, fun i ys hi => ?_, fun i j u v hij hu hv => ?_⟩
  · rcases Nat.lt_or_ge i zss.length with hlt | hge
    · rw [List.getElem?_append_left hlt] at hi
      obtain ⟨A', c', h5, h6, h7⟩ := h3 i ys hi
      exact ⟨A', c', by rw [List.getElem?_append_left (by omega)]; exact h5, hkeep h6, fun k hk => .inl (h7 k hk)⟩
    · have hi2 : i = zss.length := by
        have := (List.getElem?_eq_some_iff.1 hi).1
        rw [List.length_append] at this
        simp at this
        omega
      subst hi2
      rw [List.getElem?_append_right (Nat.le_refl _), Nat.sub_self] at hi
      have hi3 : zs = ys := by simpa using hi
      subst hi3
      exact ⟨A1, c1, by rw [List.getElem?_append_right (by omega), lv, ← lz, Nat.sub_self]; rfl, hkeep hc, fun k hk => .inr hk⟩
  · have hcase : ∀ (a : Nat) (x : Value), (vs ++ [Value.slice A1 zs.length c1])[a]? = some x → (a < vs.length ∧ vs[a]? = some x) ∨ (a = vs.length ∧ x = .slice A1 zs.length c1) := by
      intro a x hx
      rcases Nat.lt_or_ge a vs.length with hlt | hge
      · rw [List.getElem?_append_left hlt] at hx; exact .inl ⟨hlt, hx⟩
      · have ha := (List.getElem?_eq_some_iff.1 hx).1
        rw [List.length_append] at ha
        simp at ha
        have ha2 : a = vs.length := by omega
        subst ha2
        rw [List.getElem?_append_right (Nat.le_refl _), Nat.sub_self] at hx
        exact .inr ⟨rfl, by simpa using hx.symm⟩
    rcases hcase i u hu with ⟨l1, g1⟩ | ⟨l1, g1⟩ <;> rcases hcase j v hv with ⟨l2, g2⟩ | ⟨l2, g2⟩
    · exact h4 i j u v hij g1 g2
    · subst g2
      rcases hq : u.ownBlock with _ | q
      · exact .inl rfl
      · exact .inr fun he => hH q he.symm (hbl u (List.mem_of_getElem? g1) q hq)
    · subst g1
      rcases hq : (Value.slice A1 zs.length c1).ownBlock with _ | q
      · exact .inl rfl
      · exact .inr fun he => hH q hq (hbl v (List.mem_of_getElem? g2) q he.symm)
    · omega
end
/-- 'append(s, y...)', y not empty. -/
theorem wpList_spread1 {P : Program} {t e : TypeId} {z : Value} {bytes : Nat} (EI : Elem P t e z bytes) {ops : Array Oper} {rest : List Oper} {o : Oper} {a : Act} {Q : Exit → Act → World → Prop} (hgd : o.guard = none)
    (s x : Operand) (w : World) (A0 : Option Addr) (m c0 : Nat) (us : List Value) (hr : Reads w w.heap.size A0 m us) (h0 : 0 < m) (ho : o.op = .call { callee := .builtin .append, args := #[s, x], argTypes := #[t, t] })
    (base : Nat) (v : Value) (n : Nat) (xs : List Value) (hs : a.eval s = v) (hx : a.eval x = .slice A0 m c0) (hown : w.ownsRow base e 1 v n xs) (hu : ∀ u ∈ us, u.oneCell' = true)
    (hn : n + m ≤ 4000000000) (hbase : base ≤ w.heap.size)
    (h : ∀ A c w', w'.ownsRow base e 1 (.slice A (n + m) c) (n + m) (xs ++ us) → w.grownBy w' v.ownBlock → ((Value.slice A (n + m) c).ownBlock = v.ownBlock ∨ (Value.slice A (n + m) c).ownBlock = some w.heap.size) → wpList P ops Q rest (a.put o.dst (.slice A (n + m) c)) w') :
    wpList P ops Q (o :: rest) a w := by
  obtain ⟨i, hi, hz, hz1, hz2⟩ := info_parts EI.info
  have hby : (n + m) * bytes ≤ 140737488355328 := Nat.le_trans (Nat.mul_le_mul_left _ EI.pos) (by omega)
  obtain ⟨b, o', u0, e0, _⟩ := hr.at_ h0
  subst e0
  have hcell : ∀ j u, us[j]? = some u → w.cell? ((⟨b, o', none⟩ : Addr).add j) = some u := by
    intro j u hj
    have hl := (List.getElem?_eq_some_iff.1 hj).1
    obtain ⟨b2, o2, u', e1, hb, hu', hc⟩ := hr.at_ (k := j) (by have := hr.len; omega)
    cases e1
    rw [hj] at hu'
    cases hu'
    rw [show (⟨b, o', none⟩ : Addr).add j = ⟨b, o' + j, none⟩ by unfold Addr.add; split <;> simp_all]
    exact hc
  refine wpList_append_own_at w hgd s x t ho base e i z 1 bytes EI.under hi hz hz1 hz2 EI.one (by decide) v n xs hs hown _ m c0 us hx (by have := hr.len; omega) hcell hu (by unfold maxLen; omega) hby hbase ?_
  intro v' w' h1 h2 h3 h4
  obtain ⟨A, c, rfl⟩ : ∃ A c, v' = Value.slice A (n + m) c := by
    rcases h1.2 with ⟨hv, h0⟩ | ⟨g, cap, cur, hv, _⟩
    · exact ⟨none, 0, by rw [hv, h0]⟩
    · exact ⟨_, _, hv⟩
  exact h A c w' h1 h2 h4
end Go.Proofs.Ytkcckfpihpfbnaa
