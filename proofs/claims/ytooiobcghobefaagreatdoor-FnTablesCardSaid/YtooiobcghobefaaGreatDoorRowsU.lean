/-
  Lists of lists that grow by append: each inner list a row of the call's own, below a bound.
  Conditions: as each theorem says.
-/
import Derived.Test.YtooiobcghobefaaGreatDoorRows0
namespace Go.Proofs.YtooiobcghobefaaGreatDoor
open Go.RowKit
set_option linter.unusedVariables false

def RowsV (w : World) (B H : Nat) (A : Option Addr) (n c : Nat) (zss : List (List Int)) (vs : List Value) : Prop :=
  w.ownsRow B 37 1 (.slice A n c) n vs ∧
    (∀ (i : Nat) (zs : List Int), zss[i]? = some zs → ∃ (A' : Option Addr) (c' : Nat), vs[i]? = some (Value.slice A' zs.length c') ∧ w.ownsRow B 3 1 (.slice A' zs.length c') zs.length (zs.map (Value.int .i64)) ∧ ∀ k, (Value.slice A' zs.length c').ownBlock = some k → k < H) ∧
    ∀ (i j : Nat) (u v : Value), i ≠ j → vs[i]? = some u → vs[j]? = some v → u.ownBlock = none ∨ u.ownBlock ≠ v.ownBlock
def RowsU (w : World) (B H : Nat) (A : Option Addr) (n c : Nat) (zss : List (List Int)) : Prop := zss.length = n ∧ ∃ vs, RowsV w B H A n c zss vs
theorem RowsU.start (w : World) (H : Nat) : RowsU (w.alloc (.cells #[] 37)) w.heap.size H (some ⟨w.heap.size, 0, none⟩) 0 0 [] :=
  ⟨rfl, [], own_start w _, (fun i zs hi => by simp at hi), (fun i j u v _ hu => by simp at hu)⟩
section
variable {w w' : World} {B H n c : Nat} {A : Option Addr} {zss : List (List Int)}
theorem RowsU.below (h : RowsU w B H A n c zss) (hb : Below w.heap.size w w') : RowsU w' B H A n c zss := by
  obtain ⟨h1, vs, h2, h3, h4⟩ := h
  refine ⟨h1, vs, own_below h2 hb, fun i zs hi => ?_, h4⟩
  obtain ⟨A', c', h5, h6, h7⟩ := h3 i zs hi
  exact ⟨A', c', h5, own_below h6 hb, h7⟩
theorem RowsU.more {B' : Nat} (h : RowsU w B H A n c zss) (hB : B' ≤ B) : RowsU w B' H A n c zss := by
  obtain ⟨h1, vs, h2, h3, h4⟩ := h
  refine ⟨h1, vs, own_more h2 hB, fun i zs hi => ?_, h4⟩
  obtain ⟨A', c', h5, h6, h7⟩ := h3 i zs hi
  exact ⟨A', c', h5, own_more h6 hB, h7⟩
theorem RowsU.bound (h : RowsU w B H A n c zss) : RowsU w B w.heap.size A n c zss := by
  obtain ⟨h1, vs, h2, h3, h4⟩ := h
  refine ⟨h1, vs, h2, fun i zs hi => ?_, h4⟩
  obtain ⟨A', c', h5, h6, h7⟩ := h3 i zs hi
  exact ⟨A', c', h5, h6, fun k hk => (h6.lt k hk).2⟩
theorem RowsU.own (h : RowsU w B H A n c zss) : OwnRows w B A n c zss := by
  obtain ⟨h1, vs, h2, h3, h4⟩ := h
  refine ⟨h1, vs, h2, fun i zs hi => ?_, h4⟩
  obtain ⟨A', c', h5, h6, h7⟩ := h3 i zs hi
  exact ⟨A', c', h5, h6⟩
/-- A row of other things, or a row above the bound, has turned. -/
theorem RowsU.other {B' e m : Nat} {v : Value} {xs : List Value} (h : RowsU w B H A n c zss) (ho : w.ownsRow B' e 1 v m xs) (hne : e ≠ 37) (hrow : e ≠ 3 ∨ ∀ k, v.ownBlock = some k → H ≤ k) (hg : w.grownBy w' v.ownBlock) : RowsU w' B H A n c zss := by
  obtain ⟨h1, vs, h2, h3, h4⟩ := h
  refine ⟨h1, vs, h2.kept hg (own_types h2 ho (fun e => hne e.symm)), fun i zs hi => ?_, h4⟩
  obtain ⟨A', c', h5, h6, h7⟩ := h3 i zs hi
  refine ⟨A', c', h5, h6.kept hg ?_, h7⟩
  rcases hrow with hr | hr
  · exact own_types h6 ho (fun e => hr e.symm)
  · rcases hq : (Value.slice A' zs.length c').ownBlock with _ | q
    · exact .inl rfl
    · refine .inr fun he => ?_
      have := hr q he.symm
      have := h7 q hq
      omega
theorem grown_setCell (w : World) (g o : Nat) (u : Value) : w.grownBy (w.setCell ⟨g, o, none⟩ u) (some g) :=
  ⟨rfl, rfl, rfl, by simp [World.setCell], fun k hk hne => Below.heap_setCell _ _ _ _ (fun e => hne (by rw [e]))⟩
/-- One list more. -/
theorem RowsU.push {vs : List Value} {A1 A2 : Option Addr} {n1 c1 c2 : Nat} {zs : List Int} (lz : zss.length = n) (h : RowsV w B H A n c zss vs)
    (hc : w.ownsRow B 3 1 (.slice A1 n1 c1) n1 (zs.map (Value.int .i64))) (hH : ∀ k, (Value.slice A1 n1 c1).ownBlock = some k → H ≤ k)
    (ho : w'.ownsRow B 37 1 (.slice A2 (n + 1) c2) (n + 1) (vs ++ [.slice A1 n1 c1])) (hg : w.grownBy w' (Value.slice A n c).ownBlock) : RowsU w' B w'.heap.size A2 (n + 1) c2 (zss ++ [zs]) := by
  obtain ⟨h2, h3, h4⟩ := h
  have lv := own_len h2
  have lc : zs.length = n1 := by have := own_len hc; simpa using this
  subst lc
  have hkeep : ∀ {e m : Nat} {v : Value} {xs : List Value}, w.ownsRow B 3 1 v m xs → w'.ownsRow B 3 1 v m xs := fun {e m v xs} h6 => h6.kept hg (own_types h6 h2 (by decide))
  have hbl : ∀ u, u ∈ vs → ∀ k, u.ownBlock = some k → k < H := by
    intro u hu k hk
    obtain ⟨i, hi⟩ := List.getElem?_of_mem hu
    have hil : i < zss.length := by have := (List.getElem?_eq_some_iff.1 hi).1; omega
    obtain ⟨A', c', h5, h6, h7⟩ := h3 i _ (List.getElem?_eq_getElem hil)
    rw [hi] at h5
    cases h5
    exact h7 k hk
  refine ⟨by rw [List.length_append, lz]; rfl, vs ++ [.slice A1 zs.length c1], ho, fun i ys hi => ?_, fun i j u v hij hu hv => ?_⟩
  · rcases Nat.lt_or_ge i zss.length with hlt | hge
    · rw [List.getElem?_append_left hlt] at hi
      obtain ⟨A', c', h5, h6, h7⟩ := h3 i ys hi
      have h8 := hkeep (e := 0) h6
      exact ⟨A', c', by rw [List.getElem?_append_left (by omega)]; exact h5, h8, fun k hk => (h8.lt k hk).2⟩
    · have hi2 : i = zss.length := by
        have := (List.getElem?_eq_some_iff.1 hi).1
        rw [List.length_append] at this
        simp at this
        omega
      subst hi2
      rw [List.getElem?_append_right (Nat.le_refl _), Nat.sub_self] at hi
      have hi3 : zs = ys := by simpa using hi
      subst hi3
      have h8 := hkeep (e := 0) hc
      exact ⟨A1, c1, by rw [List.getElem?_append_right (by omega), lv, ← lz, Nat.sub_self]; rfl, h8, fun k hk => (h8.lt k hk).2⟩
  · have key : ∀ a : Nat, (vs ++ [Value.slice A1 zs.length c1])[a]? = some u ∨ True → True := fun _ _ => trivial
    have hcase : ∀ (a : Nat) (x : Value), (vs ++ [Value.slice A1 zs.length c1])[a]? = some x → (a < vs.length ∧ vs[a]? = some x) ∨ (a = vs.length ∧ x = .slice A1 zs.length c1) := by
      intro a x hx
      rcases Nat.lt_or_ge a vs.length with hlt | hge
      · rw [List.getElem?_append_left hlt] at hx; exact .inl ⟨hlt, hx⟩
      · have ha := (List.getElem?_eq_some_iff.1 hx).1
        rw [List.length_append] at ha
        simp at ha
        have ha2 : a = vs.length := by omega
        subst ha2
        rw [List.getElem?_append_right (Nat.le_refl _), Nat.sub_self] at hx
        exact .inr ⟨rfl, by simpa using hx.symm⟩
    rcases hcase i u hu with ⟨l1, g1⟩ | ⟨l1, g1⟩ <;> rcases hcase j v hv with ⟨l2, g2⟩ | ⟨l2, g2⟩
    · exact h4 i j u v hij g1 g2
    · subst g2
      rcases hq : u.ownBlock with _ | q
      · exact .inl rfl
      · refine .inr fun he => ?_
        have := hbl u (List.mem_of_getElem? g1) q hq
        have := hH q he.symm
        omega
    · subst g1
      rcases hq : (Value.slice A1 zs.length c1).ownBlock with _ | q
      · exact .inl rfl
      · refine .inr fun he => ?_
        have := hbl v (List.mem_of_getElem? g2) q he.symm
        have := hH q hq
        omega
    · omega
end
end Go.Proofs.YtooiobcghobefaaGreatDoor
