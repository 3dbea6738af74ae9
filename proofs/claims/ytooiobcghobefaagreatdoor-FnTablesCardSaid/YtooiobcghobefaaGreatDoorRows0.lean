/-
  Walks of the laws' own helpers over lists of lists of numbers: copies, comparisons.
  Conditions: as each theorem says.
-/
import Derived.Test.YtooiobcghobefaaGreatDoorHelp
namespace Go.Proofs.YtooiobcghobefaaGreatDoor
open Go.RowKit
set_option linter.unusedVariables false

theorem elemS : Elem Tryz.prog 24 37 (.slice none 0 0) 24 := ⟨Tryz.underlying24, by kernel_rfl, rfl, by decide⟩

/-- A list of lists of numbers that a call owns: no two of its lists lie in one row. -/
def OwnRows (w : World) (B : Nat) (A : Option Addr) (n c : Nat) (zss : List (List Int)) : Prop :=
  zss.length = n ∧ ∃ vs : List Value, w.ownsRow B 37 1 (.slice A n c) n vs ∧
    (∀ (i : Nat) (zs : List Int), zss[i]? = some zs → ∃ (A' : Option Addr) (c' : Nat), vs[i]? = some (Value.slice A' zs.length c') ∧ w.ownsRow B 3 1 (.slice A' zs.length c') zs.length (zs.map (Value.int .i64))) ∧
    ∀ (i j : Nat) (u v : Value), i ≠ j → vs[i]? = some u → vs[j]? = some v → u.ownBlock = none ∨ u.ownBlock ≠ v.ownBlock
theorem OwnRows.rows {w : World} {B n c : Nat} {A : Option Addr} {zss : List (List Int)} (h : OwnRows w B A n c zss) : RowsAt w w.heap.size A n zss := by
  obtain ⟨h1, vs, h2, h3, _⟩ := h
  refine ⟨h1, vs, Reads.of_own h2, fun i zs hi => ?_⟩
  obtain ⟨A', c', h4, h5⟩ := h3 i zs hi
  exact ⟨A', c', h4, Reads.of_own h5⟩
theorem OwnRows.below {w w' : World} {B n c : Nat} {A : Option Addr} {zss : List (List Int)} (h : OwnRows w B A n c zss) (hb : Below w.heap.size w w') : OwnRows w' B A n c zss := by
  obtain ⟨h1, vs, h2, h3, h4⟩ := h
  refine ⟨h1, vs, own_below h2 hb, fun i zs hi => ?_, h4⟩
  obtain ⟨A', c', h5, h6⟩ := h3 i zs hi
  exact ⟨A', c', h5, own_below h6 hb⟩
theorem OwnRows.more {w : World} {B B' n c : Nat} {A : Option Addr} {zss : List (List Int)} (h : OwnRows w B A n c zss) (hB : B' ≤ B) : OwnRows w B' A n c zss := by
  obtain ⟨h1, vs, h2, h3, h4⟩ := h
  refine ⟨h1, vs, own_more h2 hB, fun i zs hi => ?_, h4⟩
  obtain ⟨A', c', h5, h6⟩ := h3 i zs hi
  exact ⟨A', c', h5, own_more h6 hB⟩
theorem OwnRows.setBelow {w : World} {B n c : Nat} {A : Option Addr} {zss : List (List Int)} (h : OwnRows w B A n c zss) {a : Addr} (ha : a.block < B) (u : Value) : OwnRows (w.setCell a u) B A n c zss := by
  obtain ⟨h1, vs, h2, h3, h4⟩ := h
  refine ⟨h1, vs, ownsRow_setCell_below h2 ha u, fun i zs hi => ?_, h4⟩
  obtain ⟨A', c', h5, h6⟩ := h3 i zs hi
  exact ⟨A', c', h5, ownsRow_setCell_below h6 ha u⟩
theorem OwnRows.alloc {w : World} {B n c : Nat} {A : Option Addr} {zss : List (List Int)} (h : OwnRows w B A n c zss) (o : Obj) : OwnRows (w.alloc o) B A n c zss := by
  obtain ⟨h1, vs, h2, h3, h4⟩ := h
  refine ⟨h1, vs, h2.alloc o, fun i zs hi => ?_, h4⟩
  obtain ⟨A', c', h5, h6⟩ := h3 i zs hi
  exact ⟨A', c', h5, h6.alloc o⟩
/-- A list of lists in the call's own memory. -/
def RetRows (w : World) (zss : List (List Int)) (e : Ending) (w' : World) : Prop :=
  ∃ A n c, e = .returned (.slice A n c) ∧ OwnRows w' w.heap.size A n c zss ∧ Below w.heap.size w w'

/-- The part of a list of lists that stands already, while it is filled. -/
def PartRows (w : World) (B : Nat) (g n k : Nat) (zss : List (List Int)) : Prop :=
  ∃ vs : List Value, vs.length = k ∧ w.ownsRow B 37 1 (.slice (some ⟨g, 0, none⟩) n n) n (vs ++ List.replicate (n - k) (.slice none 0 0)) ∧
    (∀ (i : Nat) (zs : List Int), i < k → zss[i]? = some zs → ∃ (A' : Option Addr) (c' : Nat), vs[i]? = some (Value.slice A' zs.length c') ∧ w.ownsRow B 3 1 (.slice A' zs.length c') zs.length (zs.map (Value.int .i64))) ∧
    ∀ (i j : Nat) (u v : Value), i ≠ j → vs[i]? = some u → vs[j]? = some v → u.ownBlock = none ∨ u.ownBlock ≠ v.ownBlock
theorem PartRows.whole {w : World} {B g n : Nat} {zss : List (List Int)} (h : PartRows w B g n n zss) (hz : zss.length = n) : OwnRows w B (some ⟨g, 0, none⟩) n n zss := by
  obtain ⟨vs, h1, h2, h3, h4⟩ := h
  rw [Nat.sub_self, List.replicate_zero, List.append_nil] at h2
  exact ⟨hz, vs, h2, fun i zs hi => h3 i zs (by have := (List.getElem?_eq_some_iff.1 hi).1; omega) hi, h4⟩
theorem PartRows.below {w w' : World} {B g n k : Nat} {zss : List (List Int)} (h : PartRows w B g n k zss) (hb : Below w.heap.size w w') : PartRows w' B g n k zss := by
  obtain ⟨vs, h1, h2, h3, h4⟩ := h
  refine ⟨vs, h1, own_below h2 hb, fun i zs hk hi => ?_, h4⟩
  obtain ⟨A', c', h5, h6⟩ := h3 i zs hk hi
  exact ⟨A', c', h5, own_below h6 hb⟩
/-- One list more, which a call has just made. -/
theorem PartRows.step {w w1 : World} {B g n k c' : Nat} {zss : List (List Int)} {zs : List Int} {A' : Option Addr} (h : PartRows w B g n k zss) (hb : Below w.heap.size w w1) (hk : k < n) (hz : zss[k]? = some zs)
    (ho : w1.ownsRow w.heap.size 3 1 (.slice A' zs.length c') zs.length (zs.map (Value.int .i64))) (hB : B ≤ w.heap.size) :
    PartRows (w1.setCell ⟨g, k, none⟩ (.slice A' zs.length c')) B g n (k + 1) zss := by
  obtain ⟨vs, h1, h2, h3, h4⟩ := h
  have h2' := own_below h2 hb
  have hst := h2'.stored k (.slice A' zs.length c')
  obtain ⟨r, hr⟩ : ∃ r, n - k = r + 1 := ⟨n - k - 1, by omega⟩
  rw [hr, set_fill _ k r _ _ h1] at hst
  have hin : ∀ (v : Value) (m : Nat) (xs : List Value) (b : Nat), w1.ownsRow b 3 1 v m xs → (w1.setCell ⟨g, k, none⟩ (.slice A' zs.length c')).ownsRow b 3 1 v m xs := fun v m xs b ho =>
    own_store _ ho (own_types ho h2' (by decide))
  refine ⟨vs ++ [.slice A' zs.length c'], by simp [h1], by rw [show n - (k + 1) = r by omega]; exact hst.1, fun i zs' hi hzi => ?_, fun i j u v hij hu hv => ?_⟩
  · rcases Nat.lt_or_ge i k with hlt | hge
    · obtain ⟨A2, c2, h5, h6⟩ := h3 i zs' hlt hzi
      exact ⟨A2, c2, by rw [List.getElem?_append_left (by omega)]; exact h5, hin _ _ _ _ (own_below h6 hb)⟩
    · obtain rfl : i = k := by omega
      rw [hz] at hzi
      simp only [Option.some.injEq] at hzi
      subst hzi
      exact ⟨A', c', by rw [List.getElem?_append_right (by omega), h1, Nat.sub_self]; rfl, hin _ _ _ _ (own_more ho hB)⟩
  · have hnew : ∀ (i : Nat) (u : Value), i < k → vs[i]? = some u → ∀ q, u.ownBlock = some q → q < w.heap.size := by
      intro i u hi hu q hq
      have hzz : ∃ zs', zss[i]? = some zs' := by
        have := (List.getElem?_eq_some_iff.1 hz).1
        exact ⟨_, List.getElem?_eq_getElem (show i < zss.length by omega)⟩
      obtain ⟨zs', hz'⟩ := hzz
      obtain ⟨A2, c2, h5, h6⟩ := h3 i zs' hi hz'
      rw [hu] at h5
      simp only [Option.some.injEq] at h5
      subst h5
      exact (h6.lt q hq).2
    have hold : ∀ q, (Value.slice A' zs.length c').ownBlock = some q → w.heap.size ≤ q := fun q hq => (ho.lt q hq).1
    have bound : ∀ (i : Nat) (u : Value), (vs ++ [Value.slice A' zs.length c'])[i]? = some u → (i < k ∧ vs[i]? = some u) ∨ (i = k ∧ u = .slice A' zs.length c') := by
      intro i u hu
      rcases Nat.lt_or_ge i k with hlt | hge
      · rw [List.getElem?_append_left (by omega)] at hu; exact .inl ⟨hlt, hu⟩
      · rw [List.getElem?_append_right (by omega), h1] at hu
        have : i - k = 0 := by
          have := (List.getElem?_eq_some_iff.1 hu).1
          simp at this; omega
        rw [this] at hu
        simp at hu
        exact .inr ⟨by omega, hu.symm⟩
    rcases bound i u hu with ⟨hi, hu'⟩ | ⟨hi, rfl⟩ <;> rcases bound j v hv with ⟨hj, hv'⟩ | ⟨hj, rfl⟩
    · exact h4 i j u v hij hu' hv'
    · cases hq : u.ownBlock with
      | none => exact .inl rfl
      | some q =>
        right
        intro he
        have := hnew i u hi hu' q hq
        have := hold q he.symm
        omega
    · cases hq : (Value.slice A' zs.length c').ownBlock with
      | none => exact .inl rfl
      | some q =>
        right
        intro he
        have := hnew j v hj hv' q he.symm
        have := hold q hq
        omega
    · omega
end Go.Proofs.YtooiobcghobefaaGreatDoor
