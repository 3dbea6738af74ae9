/-
  Words that all texts of this seat use: slices that read as lists, rows that a call owns, an append of one element, small laws on numbers.
  Conditions: none; these are lemmas.
-/
import Derived.WalkKit
import Derived.ProofKit
import Derived.OpenShut
import Derived.ShutString
import Derived.ChangeOld
import Derived.Below
import Derived.Maps.AppendAt
import Derived.Deep.AppendLies
import Derived.Deep.Draws
import Derived.Laws.OwnMore
import Derived.Laws.Rows
import Derived.Laws.BitsAllLaws
import Derived.Laws.BitsLemmas
import Derived.Laws.IdiomStrings
import Derived.Laws.BytesString
import Derived.RegionTactic
import Derived.OwnWalk
import Derived.LoopTactic
import Derived.Outline
import Derived.IntWalk
import Derived.WalkSpells
import Derived.WalkLawsBesides
import Derived.Deep.DeepFit
import Derived.Deep.LoopGhost
import Derived.Laws.Concat
import Derived.Laws.Strings
import Derived.StillTailTactics
import Derived.Deep.QuietTactic
import Derived.BigQuiet
import Derived.Deep.RegionLaw
import Derived.Handy
import Derived.Test.YtooiobcghobefaaGreatDoorProg
namespace Go.Proofs.YtooiobcghobefaaGreatDoor
open Go.RowKit

theorem hide {p : Prop} (h : p) : Hid p := h

/-! ### A slice that reads as a list -/
theorem block_of_add (a : Addr) (n : Nat) : (a.add n).block = a.block := by unfold Addr.add; split <;> rfl
theorem add_of_add (a : Addr) (i j : Nat) : (a.add i).add j = a.add (i + j) := by
  unfold Addr.add
  by_cases hi : i = 0 <;> by_cases hj : j = 0 <;> simp [hi, hj, Nat.add_assoc]

/-- The slice value '.slice A n c' reads as the cells xs, and lies below block B. -/
def Reads (w : World) (B : Nat) (A : Option Addr) (n : Nat) (xs : List Value) : Prop :=
  xs.length = n ∧ n ≤ maxLen ∧ (0 < n → ∃ b o, A = some ⟨b, o, none⟩ ∧ b < B ∧ ∀ j u, xs[j]? = some u → w.cell? ⟨b, o + j, none⟩ = some u)

section
variable {w w' : World} {B B' n : Nat} {A : Option Addr} {xs : List Value}
theorem Reads.len (h : Reads w B A n xs) : xs.length = n := h.1
theorem Reads.bound (h : Reads w B A n xs) : n ≤ 9223372036854775807 := by have := h.2.1; unfold maxLen at this; omega
theorem Reads.nil_ (w : World) (B : Nat) (A : Option Addr) : Reads w B A 0 [] := ⟨rfl, by unfold maxLen; omega, fun h => absurd h (by omega)⟩
theorem Reads.at_ {k : Nat} (h : Reads w B A n xs) (hk : k < n) : ∃ b o u, A = some ⟨b, o, none⟩ ∧ b < B ∧ xs[k]? = some u ∧ w.cell? ⟨b, o + k, none⟩ = some u := by
  obtain ⟨b, o, e, hb, hc⟩ := h.2.2 (by omega)
  have hl : k < xs.length := by have := h.1; omega
  exact ⟨b, o, xs[k], e, hb, List.getElem?_eq_getElem hl, hc k _ (List.getElem?_eq_getElem hl)⟩
theorem Reads.keep (h : Reads w B A n xs) (hk : ∀ p : Addr, p.block < B → w'.cell? p = w.cell? p) : Reads w' B A n xs :=
  ⟨h.1, h.2.1, fun hn => by
    obtain ⟨b, o, e, hb, hc⟩ := h.2.2 hn
    exact ⟨b, o, e, hb, fun j u hu => (hk ⟨b, o + j, none⟩ hb).trans (hc j u hu)⟩⟩
theorem Reads.more (h : Reads w B A n xs) (hB : B ≤ B') : Reads w B' A n xs :=
  ⟨h.1, h.2.1, fun hn => by
    obtain ⟨b, o, e, hb, hc⟩ := h.2.2 hn
    exact ⟨b, o, e, by omega, hc⟩⟩
theorem Reads.below (h : Reads w B A n xs) (hb : Below B w w') : Reads w' B A n xs := h.keep fun _ hp => hb.cell hp
theorem Reads.drew (h : Reads w B A n xs) : Reads w.drew B A n xs := h
theorem Reads.drewN (h : Reads w B A n xs) (k : Nat) : Reads (w.drewN k) B A n xs := h
theorem Reads.alloc (h : Reads w B A n xs) (hB : B ≤ w.heap.size) (o : Obj) : Reads (w.alloc o) B A n xs := h.keep fun p hp => World.cell?_alloc_lt w o p (by omega)
theorem Reads.setCell (h : Reads w B A n xs) {p : Addr} (hB : B ≤ p.block) (u : Value) : Reads (w.setCell p u) B A n xs :=
  h.keep fun q hq => World.cell?_setCell_other w p q u (fun e => by subst e; omega)
theorem Reads.grown (h : Reads w B A n xs) {row : Option Nat} (hg : w.grownBy w' row) (hB : B ≤ w.heap.size) (hr : ∀ g, row = some g → B ≤ g) : Reads w' B A n xs :=
  h.keep fun p hp => World.cell?_of_block (hg.block p.block (by omega) (fun e => by have := hr _ e.symm; omega))
theorem add_lit (g j : Nat) : (⟨g, 0, none⟩ : Addr).add j = ⟨g, j, none⟩ := by unfold Addr.add; split <;> simp_all
/-- What a call owns reads as what it holds. -/
theorem Reads.of_own {base : Nat} {e : TypeId} {c : Nat} (h : w.ownsRow base e 1 (.slice A n c) n xs) : Reads w w.heap.size A n xs := by
  have h1 : xs.length = n := by have := h.1; omega
  rcases h.2 with ⟨hv, hn⟩ | ⟨g, cap, cur, hv, hg, hh, hnc, hm, hs, ht⟩
  · subst hn
    exact ⟨h1, by unfold maxLen; omega, fun h => absurd h (by omega)⟩
  · injection hv with hA
    subst hA
    refine ⟨h1, by omega, fun hn => ⟨g, 0, rfl, (Array.getElem?_eq_some_iff.1 hh).1, fun j u hu => ?_⟩⟩
    have := h.cells (g := g) rfl j u hu
    rw [add_lit] at this
    simpa using this
end

/-! ### One element more -/
/-- What the walk asks of an element type of one cell. -/
structure Elem (P : Program) (t e : TypeId) (z : Value) (bytes : Nat) : Prop where
  under : P.underlying t = some (.slice e)
  info : (P.info? e).map (fun i => (i.zero, i.size, i.bytes)) = some (some z, 1, bytes)
  one : z.cells.size = 1
  pos : bytes ≤ 24

theorem oneCell1 {u : Value} (h : u.oneCell' = true) : ∀ x ∈ [u], x.oneCell' = true := by intro x hx; simp at hx; subst hx; exact h

/-- 'append(s, x)', x one element that lies in the block just made. -/
theorem wpList_push {P : Program} {t e : TypeId} {z : Value} {bytes : Nat} (EI : Elem P t e z bytes) {ops : Array Oper} {rest : List Oper} {o : Oper} {a : Act} {Q : Exit → Act → World → Prop} (hgd : o.guard = none)
    (s x : Operand) (w : World) (u : Value) (ho : o.op = .call { callee := .builtin .append, args := #[s, x], argTypes := #[t, t] })
    (base : Nat) (v : Value) (n : Nat) (xs : List Value) (hs : a.eval s = v) (hx : a.eval x = .slice (some ⟨w.heap.size, 0, none⟩) 1 1) (hown : w.ownsRow base e 1 v n xs) (hu : u.oneCell' = true)
    (hn : n ≤ 4000000000) (hbase : base ≤ w.heap.size)
    (h : ∀ A c w', w'.ownsRow base e 1 (.slice A (n + 1) c) (n + 1) (xs ++ [u]) → w.grownBy w' v.ownBlock → ((Value.slice A (n + 1) c).ownBlock = v.ownBlock ∨ ∃ g, (Value.slice A (n + 1) c).ownBlock = some g ∧ w.heap.size ≤ g) → wpList P ops Q rest (a.put o.dst (.slice A (n + 1) c)) w') :
    wpList P ops Q (o :: rest) a (w.alloc (.cells #[u] e)) := by
  obtain ⟨i, hi, hz, hz1, hz2⟩ := info_parts EI.info
  have hby : (n + 1) * bytes ≤ 140737488355328 := Nat.le_trans (Nat.mul_le_mul_left _ EI.pos) (by omega)
  refine wpList_append_own_at (w.alloc (.cells #[u] e)) hgd s x t ho base e i z 1 bytes EI.under hi hz hz1 hz2 EI.one (by decide) v n xs hs (hown.alloc _) ⟨w.heap.size, 0, none⟩ 1 1 [u] hx rfl (cell_one_new _ _ _) (oneCell1 hu)
    (by unfold maxLen; omega) hby (by simp; omega) ?_
  intro v' w' h1 h2 h3 h4
  obtain ⟨A, c, rfl⟩ : ∃ A c, v' = .slice A (n + 1) c := by
    rcases h1.2 with ⟨_, h0⟩ | ⟨g, cap, cur, hv, _⟩
    · omega
    · exact ⟨_, _, hv⟩
  have hg : w.grownBy w' v.ownBlock := (World.grownBy_alloc w _ _).trans h2
  refine h A c w' h1 hg ?_
  rcases h4 with h4 | h4
  · exact .inl h4
  · exact .inr ⟨_, h4, by simp⟩

theorem cells_new (w : World) (us : List Value) (t : TypeId) : ∀ j u, us[j]? = some u → (w.alloc (.cells us.toArray t)).cell? ((⟨w.heap.size, 0, none⟩ : Addr).add j) = some u := by
  intro j u hj
  rw [add_lit, World.cell?_alloc_at _ _ _ _ rfl]
  simpa using hj

/-- 'append(s, x, y, ..)': the elements us lie in the block just made. -/
theorem wpList_pushes {P : Program} {t e : TypeId} {z : Value} {bytes : Nat} (EI : Elem P t e z bytes) {ops : Array Oper} {rest : List Oper} {o : Oper} {a : Act} {Q : Exit → Act → World → Prop} (hgd : o.guard = none)
    (s x : Operand) (w : World) (us : List Value) (m : Nat) (hm : us.length = m) (h0 : 0 < m) (ho : o.op = .call { callee := .builtin .append, args := #[s, x], argTypes := #[t, t] })
    (base : Nat) (v : Value) (n : Nat) (xs : List Value) (hs : a.eval s = v) (hx : a.eval x = .slice (some ⟨w.heap.size, 0, none⟩) m m) (hown : w.ownsRow base e 1 v n xs) (hu : ∀ u ∈ us, u.oneCell' = true)
    (hn : n + m ≤ 4000000000) (hbase : base ≤ w.heap.size)
    (h : ∀ A c w', w'.ownsRow base e 1 (.slice A (n + m) c) (n + m) (xs ++ us) → w.grownBy w' v.ownBlock → ((Value.slice A (n + m) c).ownBlock = v.ownBlock ∨ ∃ g, (Value.slice A (n + m) c).ownBlock = some g ∧ w.heap.size ≤ g) → wpList P ops Q rest (a.put o.dst (.slice A (n + m) c)) w') :
    wpList P ops Q (o :: rest) a (w.alloc (.cells us.toArray e)) := by
  obtain ⟨i, hi, hz, hz1, hz2⟩ := info_parts EI.info
  have hby : (n + m) * bytes ≤ 140737488355328 := Nat.le_trans (Nat.mul_le_mul_left _ EI.pos) (by omega)
  refine wpList_append_own_at (w.alloc (.cells us.toArray e)) hgd s x t ho base e i z 1 bytes EI.under hi hz hz1 hz2 EI.one (by decide) v n xs hs (hown.alloc _) ⟨w.heap.size, 0, none⟩ m m us hx (by omega) (cells_new _ _ _) hu
    (by unfold maxLen; omega) hby (by simp; omega) ?_
  intro v' w' h1 h2 h3 h4
  obtain ⟨A, c, rfl⟩ : ∃ A c, v' = .slice A (n + m) c := by
    rcases h1.2 with ⟨_, h0⟩ | ⟨g, cap, cur, hv, _⟩
    · omega
    · exact ⟨_, _, hv⟩
  have hg : w.grownBy w' v.ownBlock := (World.grownBy_alloc w _ _).trans h2
  refine h A c w' h1 hg ?_
  rcases h4 with h4 | h4
  · exact .inl h4
  · exact .inr ⟨_, h4, by simp⟩

theorem cells_new2 (w : World) (us : List Value) (t : TypeId) : ∀ j u, us[j]? = some u → (w.alloc (.cells us.toArray t)).drew.cell? ⟨w.heap.size, j, none⟩ = some u := by
  intro j u hj
  have := cells_new w us t j u hj
  rw [add_lit] at this
  exact this
theorem oneCells {us : List Value} (h : us.all (fun u => u.oneCell') = true) : ∀ u ∈ us, u.oneCell' = true := List.all_eq_true.1 h
/-- The same, in whatever world the new elements lie; as one operation. -/
theorem wp_pushes {P : Program} {t e : TypeId} {z : Value} {bytes : Nat} (EI : Elem P t e z bytes) {o : Oper} {a : Act} {K : Act → World → Prop} {Q : Exit → Act → World → Prop}
    (s x : Operand) (w : World) (us : List Value) (m : Nat) (hm : us.length = m) (h0 : 0 < m) (ho : o.op = .call { callee := .builtin .append, args := #[s, x], argTypes := #[t, t] })
    (base : Nat) (v : Value) (n : Nat) (xs : List Value) (hs : a.eval s = v) (g c0 : Nat) (hx : a.eval x = .slice (some ⟨g, 0, none⟩) m c0) (hown : w.ownsRow base e 1 v n xs)
    (hnews : ∀ j u, us[j]? = some u → w.cell? ⟨g, j, none⟩ = some u) (hu : ∀ u ∈ us, u.oneCell' = true) (hn : n + m ≤ 4000000000) (hbase : base ≤ w.heap.size)
    (h : ∀ A c w', w'.ownsRow base e 1 (.slice A (n + m) c) (n + m) (xs ++ us) → w.grownBy w' v.ownBlock → ((Value.slice A (n + m) c).ownBlock = v.ownBlock ∨ (Value.slice A (n + m) c).ownBlock = some w.heap.size) → K (a.put o.dst (.slice A (n + m) c)) w') :
    o.wp P a w K Q := by
  obtain ⟨i, hi, hz, hz1, hz2⟩ := info_parts EI.info
  have hby : (n + m) * bytes ≤ 140737488355328 := Nat.le_trans (Nat.mul_le_mul_left _ EI.pos) (by omega)
  obtain ⟨v', w', hr, h1, h2, h3, h4⟩ := run_append_own_at (P := P) w base t o.type e i z 1 bytes EI.under hi hz hz1 hz2 EI.one (by decide) v n xs hown ⟨g, 0, none⟩ m c0 us (by omega) (fun j u hj => by rw [add_lit]; exact hnews j u hj) hu (by unfold maxLen; omega) hby hbase
  obtain ⟨A, c, rfl⟩ : ∃ A c, v' = .slice A (n + m) c := by
    rcases h1.2 with ⟨_, h0⟩ | ⟨g, cap, cur, hv, _⟩
    · omega
    · exact ⟨_, _, hv⟩
  unfold Oper.wp execOp
  simp only [ho, resolve, invoke, builtin, Sem.run_bind, Sem.run_pure, Result.andThen_ok, List.map_toArray, List.map_cons, List.map_nil, hs, hx, hr]
  exact h A c w' h1 h2 h4
theorem step_pushes {P : Program} {t e : TypeId} {z : Value} {bytes : Nat} (EI : Elem P t e z bytes) {ops : Array Oper} {o : Oper} {a : Act} {K : Act → World → Prop} {Q : Exit → Act → World → Prop} {E : Prop} (hgd : o.guard = none)
    (s x : Operand) (w : World) (us : List Value) (m : Nat) (hm : us.length = m) (h0 : 0 < m) (ho : o.op = .call { callee := .builtin .append, args := #[s, x], argTypes := #[t, t] })
    (base : Nat) (v : Value) (n : Nat) (xs : List Value) (hs : a.eval s = v) (g c0 : Nat) (hx : a.eval x = .slice (some ⟨g, 0, none⟩) m c0) (hown : w.ownsRow base e 1 v n xs)
    (hnews : ∀ j u, us[j]? = some u → w.cell? ⟨g, j, none⟩ = some u) (hu : ∀ u ∈ us, u.oneCell' = true) (hn : n + m ≤ 4000000000) (hbase : base ≤ w.heap.size)
    (h : ∀ A c w', w'.ownsRow base e 1 (.slice A (n + m) c) (n + m) (xs ++ us) → w.grownBy w' v.ownBlock → ((Value.slice A (n + m) c).ownBlock = v.ownBlock ∨ (Value.slice A (n + m) c).ownBlock = some w.heap.size) → K (a.put o.dst (.slice A (n + m) c)) w') :
    if Region.wanted o (yielded ops a.tmps) = true then Oper.wp P o a w K Q else E := by
  have hw : Region.wanted o (yielded ops a.tmps) = true := by simp [Region.wanted, hgd]
  rw [if_pos hw]
  exact wp_pushes EI s x w us m hm h0 ho base v n xs hs g c0 hx hown hnews hu hn hbase h

/-- Behind an append the call's own part of memory alone has turned. -/
theorem below_push {B : Nat} {a w w' : World} {v : Value} {e : TypeId} {n : Nat} {xs : List Value} (hb : Below B a w) (hB : B ≤ w.heap.size) (hown : w.ownsRow B e 1 v n xs) (hg : w.grownBy w' v.ownBlock) : Below B a w' :=
  hb.grown hg hB fun k hk => (hown.lt k hk).1

/-- Behind a call all old cells read as before. -/
theorem bcell {W w1 : World} (hb : Below W.heap.size W w1) : (∀ b o, b < W.heap.size → w1.cell? ⟨b, o, none⟩ = W.cell? ⟨b, o, none⟩) ∧ (∀ b o, b < W.heap.size → w1.frozen? ⟨b, o, none⟩ = W.frozen? ⟨b, o, none⟩) :=
  ⟨fun b o h => hb.cell (p := ⟨b, o, none⟩) h, fun b o h => hb.frozen (p := ⟨b, o, none⟩) h⟩
/-- Calls one behind the other. -/
theorem below_call {a w w' : World} (h : Below a.heap.size a w) (k : Below w.heap.size w w') : Below a.heap.size a w' := h.trans (k.mono h.size)

/-- A boxed struct of two cells, behind a call. -/
theorem box2 {w w1 : World} {x y : Value} {t : TypeId} (hb : Below (w.alloc (.cells #[x, y] t)).heap.size (w.alloc (.cells #[x, y] t)) w1) :
    w1.cell? ⟨w.heap.size, 0, none⟩ = some x ∧ w1.cell? ⟨w.heap.size, 1, none⟩ = some y ∧ w.heap.size < w1.heap.size ∧ Below w.heap.size w w1 := by
  have hs := hb.size
  simp only [World.size_alloc] at hs
  refine ⟨?_, ?_, by omega, (((Below.refl w.heap.size w).alloc (Nat.le_refl _) (.cells #[x, y] t)).trans (hb.mono (by simp)))⟩
  · rw [hb.cell (by simp), World.cell?_alloc_at _ _ _ _ rfl]; rfl
  · rw [hb.cell (by simp), World.cell?_alloc_at _ _ _ _ rfl]; rfl
/-- Two boxed structs of two cells, behind a call. -/
theorem box22 {w w1 : World} {x y x' y' : Value} {t t' : TypeId} (hb : Below ((w.alloc (.cells #[x, y] t)).alloc (.cells #[x', y'] t')).heap.size ((w.alloc (.cells #[x, y] t)).alloc (.cells #[x', y'] t')) w1) :
    w1.cell? ⟨w.heap.size, 0, none⟩ = some x ∧ w1.cell? ⟨w.heap.size, 1, none⟩ = some y ∧ w.heap.size < w1.heap.size ∧ w1.cell? ⟨w.heap.size + 1, 0, none⟩ = some x' ∧ w1.cell? ⟨w.heap.size + 1, 1, none⟩ = some y' ∧ w.heap.size + 1 < w1.heap.size ∧ Below w.heap.size w w1 := by
  have hs := hb.size
  simp only [World.size_alloc] at hs
  refine ⟨?_, ?_, by omega, ?_, ?_, by omega, ((((Below.refl w.heap.size w).alloc (Nat.le_refl _) (.cells #[x, y] t)).alloc (by simp) (.cells #[x', y'] t')).trans (hb.mono (by simp; omega)))⟩
  · rw [hb.cell (by simp; omega), World.cell?_alloc_past _ _ _ (by simp), World.cell?_alloc_at _ _ _ _ rfl]; rfl
  · rw [hb.cell (by simp; omega), World.cell?_alloc_past _ _ _ (by simp), World.cell?_alloc_at _ _ _ _ rfl]; rfl
  · rw [hb.cell (by simp), World.cell?_alloc_at _ _ _ _ (by simp)]; rfl
  · rw [hb.cell (by simp), World.cell?_alloc_at _ _ _ _ (by simp)]; rfl
theorem cell_below {w w1 : World} {b o : Nat} {v : Value} (hb : Below w.heap.size w w1) (hc : w.cell? ⟨b, o, none⟩ = some v) (h : b < w.heap.size) : w1.cell? ⟨b, o, none⟩ = some v := (hb.cell (p := ⟨b, o, none⟩) h).trans hc

/-! ### What a function hands back -/
/-- A slice of numbers of kind k in the call's own memory. -/
def RetRow (E : TypeId) (w : World) (xs : List Value) (e : Ending) (w' : World) : Prop :=
  ∃ A n c, e = .returned (.slice A n c) ∧ w'.ownsRow w.heap.size E 1 (.slice A n c) n xs ∧ Below w.heap.size w w'
/-- A value, the memory grown. -/
def RetVal (w : World) (v : Value) (e : Ending) (w' : World) : Prop := e = .returned v ∧ Below w.heap.size w w'
def str (l : List UInt8) : Value := .string ⟨l.toArray⟩
theorem str_def (l : List UInt8) : str l = .string ⟨l.toArray⟩ := rfl
theorem str_of (s : ByteArray) : Value.string s = str s.data.toList := by unfold str; simp

/-! ### Bytes -/
def bc (b : UInt8) : Value := .int .u8 (b.toNat : Int)
theorem bc_ofNat (n : Nat) (h : n < 256) : bc (UInt8.ofNat n) = .int .u8 (n : Int) := by
  unfold bc
  rw [UInt8.toNat_ofNat']
  simp [Nat.mod_eq_of_lt h]
theorem run_own_string {P : Program} (w : World) (src dst e : TypeId) (base : Nat) (A : Option Addr) (n c : Nat) (l : List UInt8) (hs : P.underlying src = some (.slice e)) (he : P.underlying e = some (.int .u8)) (hd : P.underlying dst = some .string)
    (hown : w.ownsRow base e 1 (.slice A n c) n (l.map bc)) : (convert src dst (.slice A n c)).run P w = .ok (str l) w := by
  have h1 : l.length = n := by have := hown.1; simp at this; omega
  rcases hown.2 with ⟨hv, hn⟩ | ⟨g, cap, cur, hv, hg, hh, hnc, hm, hs', ht⟩
  · injection hv with hA _ hc
    subst hA hn hc
    have : l = [] := List.eq_nil_of_length_eq_zero h1
    subst this
    rw [run_convert_bytes_string w src dst e none 0 0 hs he hd]
    rfl
  · injection hv with hA _ hc
    subst hA
    have := run_convert_bytes_back (P := P) w src dst e ⟨g, 0, none⟩ c l hs he hd (fun j hj => by
      have := hown.cells (g := g) rfl j (bc l[j]) (by simp [hj])
      exact this)
    rw [h1] at this
    exact this
/-- 'string(b)', b the call's own. -/
theorem wpList_own_string {P : Program} {ops : Array Oper} {rest : List Oper} {o : Oper} {a : Act} {w : World} {Q : Exit → Act → World → Prop} (hgd : o.guard = none) (x : Operand) (src dst e : TypeId) (ho : o.op = .convert src dst x)
    (hs : P.underlying src = some (.slice e)) (he : P.underlying e = some (.int .u8)) (hd : P.underlying dst = some .string) (base : Nat) (A : Option Addr) (n c : Nat) (l : List UInt8) (hx : a.eval x = .slice A n c)
    (hown : w.ownsRow base e 1 (.slice A n c) n (l.map bc)) (h : wpList P ops Q rest (a.put o.dst (str l)) w) : wpList P ops Q (o :: rest) a w := by
  refine wpList_plain hgd fun K hK => ?_
  have hr := run_own_string (P := P) w src dst e base A n c l hs he hd hown
  unfold Oper.wp
  simp only [execOp, ho, hx, hr, Sem.run_bind, Sem.run_pure, Result.andThen_ok]
  exact hK _ _ h

theorem own_byte1 (w : World) (E : TypeId) (x : Int) (b : UInt8) (h : bc b = .int .u8 x) : (w.alloc (.cells #[.int .u8 x] E)).ownsRow w.heap.size E 1 (.slice (some ⟨w.heap.size, 0, none⟩) 1 1) 1 ([b].map bc) := by
  have := World.ownsRow_lit (base := w.heap.size) (e := E) (size := 1) w #[.int .u8 x] 1 (Nat.le_refl _) (by unfold maxLen; omega) rfl
  simpa [h] using this
theorem str_add {P : Program} (t : TypeId) (x y : List UInt8) (h : x.length + y.length ≤ 9223372036854775807) (w : World) : (binOp .add t (str x) (str y)).run P w = .ok (str (x ++ y)) w := by
  have hr := run_string_add_sum (P := P) (w := w) ⟨x.toArray⟩ ⟨y.toArray⟩ (by show x.toArray.size + y.toArray.size ≤ _; simpa using h)
  rw [ByteArray.mk_append_mk] at hr
  unfold str
  rw [binOp_string_add]
  exact hr
@[go_sem] theorem str_eql (t : TypeId) (x y : List UInt8) : binOp .eql t (str x) (str y) = pure (.bool (x == y)) := by
  unfold str
  rw [binOp_string_eql, ByteArray.toList_mk, ByteArray.toList_mk]
@[go_sem] theorem str_neq (t : TypeId) (x y : List UInt8) : binOp .neq t (str x) (str y) = pure (.bool (!(x == y))) := by
  unfold str
  rw [binOp_string_neq, ByteArray.toList_mk, ByteArray.toList_mk]
@[go_sem] theorem eqGuard_at_str (op : BinOp) (t : TypeId) (x y : Operand) (l : List UInt8) (v : Value) : eqGuard op t x y (str l) v = pure () := by cases op <;> rfl
theorem size_str (l : List UInt8) : (⟨l.toArray⟩ : ByteArray).size = l.length := by show l.toArray.size = _; simp
@[go_sem] theorem str_len {P : Program} (t ty : TypeId) (l : List UInt8) (h : P.underlying t = some .string) (w : World) : (Builtin.len_ #[t] ty #[str l]).run P w = .ok (goInt l.length) w := by
  have := run_len_string (P := P) w t ty ⟨l.toArray⟩ h
  rw [size_str] at this
  exact this
theorem get_str (l : List UInt8) (i : Nat) (h : i < (⟨l.toArray⟩ : ByteArray).size) : (⟨l.toArray⟩ : ByteArray)[i] = l[i]?.getD 0 := by
  have h' : i < l.length := by rw [size_str] at h; exact h
  show l.toArray[i] = _
  simp [h']
@[go_sem] theorem str_index {P : Program} (t : TypeId) (l : List UInt8) (k : IntKind) (i : Int) (h : P.underlying t = some .string) (w : World) : (Instr.index t (str l) (.int k i)).run P w =
    if 0 ≤ i ∧ i < l.length then .ok (.int .u8 ((l[i.toNat]?.getD 0).toNat : Int)) w else (boundsPanic k i l.length .index).run P w := by
  have := run_index_string (P := P) w t ⟨l.toArray⟩ k i h
  rw [show str l = .string ⟨l.toArray⟩ from rfl, this]
  by_cases hi : 0 ≤ i ∧ i < (l.length : Int)
  · rw [dif_pos (by rw [size_str]; exact hi), if_pos hi, get_str]
  · rw [dif_neg (by rw [size_str]; exact hi), if_neg hi, size_str]
@[go_sem] theorem str_slice {P : Program} (t : TypeId) (l : List UInt8) (k k' : IntKind) (i j : Int) (h : P.underlying t = some .string) (h0 : 0 ≤ i) (h1 : i ≤ j) (h2 : j ≤ l.length) (w : World) :
    (Instr.slice t (str l) (some (.int k i)) (some (.int k' j)) none).run P w = .ok (str ((l.drop i.toNat).take (j.toNat - i.toNat))) w := by
  have := run_slice_string (P := P) w t ⟨l.toArray⟩ k k' i j h h0 h1 (by rw [size_str]; exact h2)
  rw [ByteArray.extract_mk] at this
  exact this
@[go_sem] theorem str_slice_from {P : Program} (t : TypeId) (l : List UInt8) (k : IntKind) (i : Int) (h : P.underlying t = some .string) (h0 : 0 ≤ i) (h2 : i ≤ l.length) (w : World) :
    (Instr.slice t (str l) (some (.int k i)) none none).run P w = .ok (str (l.drop i.toNat)) w := by
  have := run_slice_string_from_if (P := P) w t ⟨l.toArray⟩ k i h
  rw [if_pos (by rw [size_str]; exact ⟨h0, h2⟩), ByteArray.extract_mk, size_str, List.take_of_length_le (by simp)] at this
  exact this
@[go_sem] theorem str_slice_to {P : Program} (t : TypeId) (l : List UInt8) (k : IntKind) (j : Int) (h : P.underlying t = some .string) (h0 : 0 ≤ j) (h2 : j ≤ l.length) (w : World) :
    (Instr.slice t (str l) none (some (.int k j)) none).run P w = .ok (str (l.take j.toNat)) w := by
  have := run_slice_string_to_if (P := P) w t ⟨l.toArray⟩ k j h
  rw [if_pos (by rw [size_str]; exact ⟨h0, h2⟩), ByteArray.extract_mk, Nat.sub_zero, List.drop_zero] at this
  exact this
@[go_sem] theorem str_eql_nil (t : TypeId) (x : List UInt8) : binOp .eql t (str x) (.string ⟨#[]⟩) = pure (.bool (x == [])) := str_eql t x []
@[go_sem] theorem str_neq_nil (t : TypeId) (x : List UInt8) : binOp .neq t (str x) (.string ⟨#[]⟩) = pure (.bool (!(x == []))) := str_neq t x []
theorem own_snoc {α : Type} {w : World} {B e n : Nat} {v u : Value} {f : α → Value} {ys : List α} {b : α} (h : w.ownsRow B e 1 v n (ys.map f ++ [u])) (hu : f b = u) : w.ownsRow B e 1 v n ((ys ++ [b]).map f) := by
  rw [List.map_append, List.map_cons, List.map_nil, hu]; exact h
theorem own_snoc2 {α : Type} {w : World} {B e n : Nat} {v u1 u2 : Value} {f : α → Value} {ys : List α} {b1 b2 : α} (h : w.ownsRow B e 1 v n (ys.map f ++ [u1, u2])) (h1 : f b1 = u1) (h2 : f b2 = u2) : w.ownsRow B e 1 v n ((ys ++ [b1, b2]).map f) := by
  rw [List.map_append, List.map_cons, List.map_cons, List.map_nil, h1, h2]; exact h
theorem ret_str {a b : List UInt8} (h : a = b) : Ending.returned (str a) = .returned (str b) := by rw [h]

/-! ### Rows of one call, kept -/
theorem own_below {w w' : World} {B e s n : Nat} {v : Value} {xs : List Value} (h : w.ownsRow B e s v n xs) (hb : Below w.heap.size w w') : w'.ownsRow B e s v n xs :=
  h.kept (row := none) ⟨hb.os, hb.tape, hb.output, hb.size, fun k hk _ => hb.block k hk⟩ (by cases v.ownBlock <;> simp)
theorem own_more {w : World} {B B' e s n : Nat} {v : Value} {xs : List Value} (h : w.ownsRow B e s v n xs) (hB : B' ≤ B) : w.ownsRow B' e s v n xs := by
  refine ⟨h.1, ?_⟩
  rcases h.2 with h | ⟨g, cap, cur, h1, h2, h3⟩
  · exact .inl h
  · exact .inr ⟨g, cap, cur, h1, by omega, h3⟩
theorem own_types {w : World} {B B' e e' n n' : Nat} {v v' : Value} {xs xs' : List Value} (h : w.ownsRow B e 1 v n xs) (h' : w.ownsRow B' e' 1 v' n' xs') (hne : e ≠ e') : v.ownBlock = none ∨ v.ownBlock ≠ v'.ownBlock := by
  rcases h.2 with ⟨rfl, _⟩ | ⟨g, cap, cur, rfl, _, hh, _⟩
  · exact .inl rfl
  · right
    rcases h'.2 with ⟨rfl, _⟩ | ⟨g', cap', cur', rfl, _, hh', _⟩
    · simp [Value.ownBlock]
    · intro he
      have : g = g' := by simpa [Value.ownBlock] using he
      subst this
      rw [hh] at hh'
      simp only [Option.some.injEq, Obj.cells.injEq] at hh'
      exact hne hh'.2.1
/-- A store into one row leaves the other rows. -/
theorem own_store {w : World} {B e g o n : Nat} {v : Value} {xs : List Value} (u : Value) (h : w.ownsRow B e 1 v n xs) (hne : v.ownBlock = none ∨ v.ownBlock ≠ some g) : (w.setCell ⟨g, o, none⟩ u).ownsRow B e 1 v n xs :=
  h.kept (row := some g) ⟨rfl, rfl, rfl, by simp [World.setCell], fun k hk hne => Below.heap_setCell _ _ _ _ (fun e => hne (by rw [e]))⟩ hne

/-- A call's new memory behind a box. -/
theorem below_box {w w1 : World} {o : Obj} (hb : Below (w.alloc o).heap.size (w.alloc o) w1) : Below w.heap.size w w1 := ((Below.refl w.heap.size w).alloc (Nat.le_refl _) o).trans (hb.mono (by simp))
theorem own_start (w : World) (E : TypeId) : (w.alloc (.cells #[] E)).ownsRow w.heap.size E 1 (.slice (some ⟨w.heap.size, 0, none⟩) 0 0) 0 [] := World.ownsRow_lit (e := E) (size := 1) w #[] 0 (Nat.le_refl _) (by unfold maxLen; omega) rfl
theorem own_len {w : World} {B E n : Nat} {v : Value} {xs : List Value} (h : w.ownsRow B E 1 v n xs) : xs.length = n := by have := h.1; omega


/-! ### Elements -/
theorem below_drewN {B : Nat} {a w : World} (h : Below B a w) (n : Nat) : Below B a (w.drewN n) := ⟨h.os, h.tape, h.output, h.size, h.block⟩
theorem at_int {w : World} {B n k : Nat} {A : Option Addr} {xs : List Int} (h : Reads w B A n (xs.map (Value.int .i64))) (hk : k < n) :
    ∃ b o x, A = some ⟨b, o, none⟩ ∧ b < B ∧ xs[k]? = some x ∧ w.cell? ⟨b, o + k, none⟩ = some (.int .i64 x) := by
  obtain ⟨b, o, u, rfl, hb, hx, hc⟩ := h.at_ hk
  rw [List.getElem?_map] at hx
  cases hz : xs[k]? with
  | none => rw [hz] at hx; cases hx
  | some x =>
    rw [hz] at hx
    simp only [Option.map_some, Option.some.injEq] at hx
    subst hx
    exact ⟨b, o, x, rfl, hb, rfl, hc⟩
theorem ints_len {w : World} {B n : Nat} {A : Option Addr} {xs : List Int} (h : Reads w B A n (xs.map (Value.int .i64))) : xs.length = n := by have := h.len; simpa using this
theorem set_fill (ys : List Value) (k r : Nat) (z u : Value) (h : ys.length = k) : (ys ++ List.replicate (r + 1) z).set k u = (ys ++ [u]) ++ List.replicate r z := by
  subst h
  rw [List.set_append_right _ _ (Nat.le_refl _), Nat.sub_self, List.replicate_succ, List.set_cons_zero, List.append_assoc]
  rfl
theorem map_take_succ {xs : List Int} {k : Nat} {x : Int} (h : xs[k]? = some x) : (xs.take (k + 1)).map (Value.int .i64) = (xs.take k).map (Value.int .i64) ++ [.int .i64 x] := by
  rw [List.take_add_one, h]; simp
theorem cell_own {w : World} {B E g n c k : Nat} {xs : List Value} (h : w.ownsRow B E 1 (.slice (some ⟨g, 0, none⟩) n c) n xs) (hk : k < n) : ∃ v, w.cell? ⟨g, k, none⟩ = some v := by
  rw [h.cellAt k (by omega)]
  exact ⟨_, List.getElem?_eq_getElem (by have := h.1; omega)⟩


/-! ### Numbers -/
theorem ret_int {k : IntKind} {a b : Int} (h : a = b) : Ending.returned (.int k a) = .returned (.int k b) := by rw [h]
theorem ret_pair {x x' y y' : Value} (h : x = x') (h2 : y = y') : Ending.returned (.tuple #[x, y]) = .returned (.tuple #[x', y']) := by rw [h, h2]
theorem ret_trip {x x' y y' z z' : Value} (h : x = x') (h2 : y = y') (h3 : z = z') : Ending.returned (.tuple #[x, y, z]) = .returned (.tuple #[x', y', z']) := by rw [h, h2, h3]
theorem int_eq {k : IntKind} {a b : Int} (h : a = b) : Value.int k a = .int k b := by rw [h]
theorem ret_bool {a b : Bool} (h : a = b) : Ending.returned (.bool a) = .returned (.bool b) := by rw [h]
theorem ofInt_i64 (a : Nat) (ha : a < 9223372036854775808) : (BitVec.ofInt 64 (a : Int)).toNat = a := by
  rw [BitVec.ofInt_natCast, BitVec.toNat_ofNat]; exact Nat.mod_eq_of_lt (by omega)
theorem i64_and_nat (a b : Nat) (ha : a < 9223372036854775808) (hb : b < 9223372036854775808) : bits .and .i64 (a : Int) (b : Int) = ((a &&& b : Nat) : Int) := by
  have hx : a &&& b < 2 ^ 63 := Nat.and_lt_two_pow _ (by omega)
  show IntKind.i64.wrap ((BitVec.ofInt 64 (a : Int) &&& BitVec.ofInt 64 (b : Int)).toNat : Int) = _
  rw [BitVec.toNat_and, ofInt_i64 a ha, ofInt_i64 b hb, IntKind.wrap_i64]
  omega
theorem i64_or_nat (a b : Nat) (ha : a < 9223372036854775808) (hb : b < 9223372036854775808) : bits .or .i64 (a : Int) (b : Int) = ((a ||| b : Nat) : Int) := by
  have hx : a ||| b < 2 ^ 63 := Nat.or_lt_two_pow (by omega) (by omega)
  show IntKind.i64.wrap ((BitVec.ofInt 64 (a : Int) ||| BitVec.ofInt 64 (b : Int)).toNat : Int) = _
  rw [BitVec.toNat_or, ofInt_i64 a ha, ofInt_i64 b hb, IntKind.wrap_i64]
  omega
end Go.Proofs.YtooiobcghobefaaGreatDoor
