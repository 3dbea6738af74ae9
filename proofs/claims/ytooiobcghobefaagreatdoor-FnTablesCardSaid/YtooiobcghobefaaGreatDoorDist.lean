/-
  The program's copies, sorted and compacted: distinct. A slice spread onto one of the call's own.
  Conditions: as each theorem says.
-/
import Derived.Test.YtooiobcghobefaaGreatDoorDistP
import Derived.Test.YtooiobcghobefaaGreatDoorHelp
import Derived.Test.YtooiobcghobefaaGreatDoorShelf
namespace Go.Proofs.YtooiobcghobefaaGreatDoor
open Go.RowKit
set_option linter.unusedVariables false

/-- 'append(s, y...)'. -/
theorem wpList_spread {P : Program} {t e : TypeId} {z : Value} {bytes : Nat} (EI : Elem P t e z bytes) {ops : Array Oper} {rest : List Oper} {o : Oper} {a : Act} {Q : Exit → Act → World → Prop} (hgd : o.guard = none)
    (s x : Operand) (w : World) (A0 : Option Addr) (m c0 : Nat) (us : List Value) (hr : Reads w w.heap.size A0 m us) (hA : A0 = none → c0 = 0) (ho : o.op = .call { callee := .builtin .append, args := #[s, x], argTypes := #[t, t] })
    (base : Nat) (v : Value) (n : Nat) (xs : List Value) (hs : a.eval s = v) (hx : a.eval x = .slice A0 m c0) (hown : w.ownsRow base e 1 v n xs) (hu : ∀ u ∈ us, u.oneCell' = true)
    (hn : n + m ≤ 4000000000) (hbase : base ≤ w.heap.size)
    (h : ∀ A c w', w'.ownsRow base e 1 (.slice A (n + m) c) (n + m) (xs ++ us) → w.grownBy w' v.ownBlock → wpList P ops Q rest (a.put o.dst (.slice A (n + m) c)) w') :
    wpList P ops Q (o :: rest) a w := by
  obtain ⟨i, hi, hz, hz1, hz2⟩ := info_parts EI.info
  have hby : (n + m) * bytes ≤ 140737488355328 := Nat.le_trans (Nat.mul_le_mul_left _ EI.pos) (by omega)
  have fin : ∀ (v' : Value) (w' : World), w'.ownsRow base e 1 v' (n + m) (xs ++ us) → ∃ A c, v' = Value.slice A (n + m) c := by
    intro v' w' h1
    rcases h1.2 with ⟨hv, h0⟩ | ⟨g, cap, cur, hv, _⟩
    · exact ⟨none, 0, by rw [hv, h0]⟩
    · exact ⟨_, _, hv⟩
  cases A0 with
  | none =>
    have hm : m = 0 := by
      rcases Nat.eq_zero_or_pos m with h0 | h0
      · exact h0
      · obtain ⟨_, _, _, e, _⟩ := hr.at_ h0; cases e
    subst hm
    have hc := hA rfl
    subst hc
    have hus : us = [] := List.length_eq_zero_iff.1 hr.len
    subst hus
    refine wpList_plain hgd fun K hK => ?_
    have hrun := run_append_owned_none (P := P) (w := w) base t o.type e i 1 EI.under hi v n xs hown
    obtain ⟨A, c, hv⟩ := fin v w (by rw [Nat.add_zero, List.append_nil]; exact hown)
    unfold Oper.wp
    simp [execOp, ho, resolve, invoke, builtin, hs, hx, hrun, Result.andThen]
    rw [hv]
    refine hK _ _ (h A c w (by rw [← hv, Nat.add_zero, List.append_nil]; exact hown) ?_)
    exact ⟨rfl, rfl, rfl, Nat.le_refl _, fun _ _ _ => rfl⟩
  | some ad =>
    have hcell : ∀ j u, us[j]? = some u → w.cell? (ad.add j) = some u := by
      intro j u hj
      have hl := (List.getElem?_eq_some_iff.1 hj).1
      obtain ⟨b, o', u', e1, hb, hu', hc⟩ := hr.at_ (k := j) (by have := hr.len; omega)
      cases e1
      rw [hj] at hu'
      cases hu'
      rw [show (⟨b, o', none⟩ : Addr).add j = ⟨b, o' + j, none⟩ by unfold Addr.add; split <;> simp_all]
      exact hc
    refine wpList_append_own_at w hgd s x t ho base e i z 1 bytes EI.under hi hz hz1 hz2 EI.one (by decide) v n xs hs hown ad m c0 us hx (by have := hr.len; omega) hcell hu (by unfold maxLen; omega) hby hbase ?_
    intro v' w' h1 h2 h3 h4
    obtain ⟨A, c, rfl⟩ := fin _ _ h1
    exact h A c w' h1 h2

theorem own_putRow {w : World} {B E g n c : Nat} {xs : List Value} (h : w.ownsRow B E 1 (.slice (some ⟨g, 0, none⟩) n c) n xs) (ds : List Int) (hd : ds.length = n) (q : Nat) (os : Array Obj) :
    (Go.Sort.grow (Go.Sort.putRow (Value.int .i64) (Go.Sort.ahead w q) g 0 ds.toArray) os).ownsRow B E 1 (.slice (some ⟨g, 0, none⟩) n c) n (ds.map (Value.int .i64)) := by
  obtain ⟨hl, hcase⟩ := h
  rcases hcase with ⟨hv, _⟩ | ⟨g', cap, cur, hv, hb, hg, hnc, hcm, hcs, htk⟩
  · cases hv
  cases hv
  have hlt : g < w.heap.size := (Array.getElem?_eq_some_iff.1 hg).1
  refine ⟨by rw [List.length_map, hd, Nat.mul_one], .inr ⟨g, c, Go.Sort.putCells (Value.int .i64) 0 ds.toArray cur, rfl, hb, ?_, hnc, hcm, ?_, ?_⟩⟩
  · unfold Go.Sort.grow Go.Sort.putRow Go.Sort.mapBlock Go.Sort.ahead
    rw [Array.getElem?_append_left (by simpa using hlt), Array.getElem?_modify, if_pos rfl, hg]
    rfl
  · unfold Go.Sort.putCells
    rw [Array.size_mapIdx]; exact hcs
  · apply List.ext_getElem?
    intro k
    rw [List.getElem?_take, List.getElem?_map, Array.getElem?_toList]
    by_cases hk : k < n
    · have hkc : k < cur.size := by omega
      unfold Go.Sort.putCells
      rw [if_pos (by omega), Array.getElem?_mapIdx, Array.getElem?_eq_getElem hkc, Option.map_some, if_pos (by simp; omega), List.getElem?_eq_getElem (by omega), Option.map_some, Nat.sub_zero, bang_at (by omega)]
    · rw [if_neg (by omega), List.getElem?_eq_none (by omega)]
      rfl
theorem below_putRow {B : Nat} {a w : World} (hb : Below B a w) {g : Nat} (hg : B ≤ g) (o q : Nat) (ds : Array Int) (os : Array Obj) (hB : B ≤ w.heap.size) :
    Below B a (Go.Sort.grow (Go.Sort.putRow (Value.int .i64) (Go.Sort.ahead w q) g o ds) os) := by
  refine hb.trans ⟨rfl, rfl, rfl, ?_, ?_⟩
  · unfold Go.Sort.grow Go.Sort.putRow Go.Sort.mapBlock Go.Sort.ahead
    simp
  · intro k hk
    unfold Go.Sort.grow Go.Sort.putRow Go.Sort.mapBlock Go.Sort.ahead
    rw [Array.getElem?_append_left (by simp; omega), Array.getElem?_modify, if_neg (by omega)]
theorem own_shrink {w : World} {B E n c k : Nat} {A : Option Addr} {xs : List Value} (h : w.ownsRow B E 1 (.slice A n c) n xs) (hk : k ≤ n) : w.ownsRow B E 1 (.slice A k c) k (xs.take k) := by
  obtain ⟨hl, hcase⟩ := h
  refine ⟨by rw [List.length_take]; omega, ?_⟩
  rcases hcase with ⟨hv, h0⟩ | ⟨g', cap, cur, hv, hb, hg, hnc, hcm, hcs, htk⟩
  · cases hv
    exact .inl ⟨by rw [show k = 0 by omega], by omega⟩
  · cases hv
    exact .inr ⟨g', c, cur, rfl, hb, hg, by omega, hcm, hcs, by rw [← htk, List.take_take, show min k (n * 1) = k * 1 by omega]⟩
theorem own_cap {w : World} {B E n c : Nat} {A : Option Addr} {xs : List Value} (h : w.ownsRow B E 1 (.slice A n c) n xs) : A = none → c = 0 := by
  intro e
  rcases h.2 with ⟨hv, _⟩ | ⟨g', cap, cur, hv, _⟩
  · cases hv; rfl
  · cases hv; cases e
theorem own_holds {w : World} {B E g n c : Nat} {xs : List Int} (h : w.ownsRow B E 1 (.slice (some ⟨g, 0, none⟩) n c) n (xs.map (Value.int .i64))) : Go.Sort.Holds (Value.int .i64) w g 0 xs.toArray := by
  intro j hj
  have hl := own_len h
  rw [List.length_map] at hl
  have hj' : j < xs.length := by simpa using hj
  rw [Nat.zero_add, bang_at hj']
  exact ⟨by rw [h.cellAt j (by omega), List.getElem?_map, List.getElem?_eq_getElem hj']; rfl, h.frozenAt j⟩
end Go.Proofs.YtooiobcghobefaaGreatDoor
