/-
  Plain laws of rows in order: the order of rows by the first value that differs, the different rows of a list in that order, merging.
  Conditions: as each theorem says.
-/
import Derived.Test.YtooiobcghobefaaGreatDoorWords
namespace Go.Proofs.YtooiobcghobefaaGreatDoor
open Go.RowKit
set_option linter.unusedVariables false

/-- Rows by the first value that differs. -/
def lexL : List Int → List Int → Bool
  | [], [] => false
  | [], _ :: _ => true
  | _ :: _, [] => false
  | a :: x, b :: y => if a = b then lexL x y else decide (a < b)
theorem lexL_irrefl : ∀ x : List Int, lexL x x = false
  | [] => rfl
  | a :: x => by rw [lexL, if_pos rfl]; exact lexL_irrefl x
theorem lexL_trans : ∀ {x y z : List Int}, lexL x y = true → lexL y z = true → lexL x z = true
  | [], [], _, h, _ => by cases h
  | [], _ :: _, [], _, h => by cases h
  | [], _ :: _, _ :: _, _, _ => rfl
  | _ :: _, [], _, h, _ => by cases h
  | _ :: _, _ :: _, [], _, h => by cases h
  | a :: x, b :: y, c :: z, h, k => by
    rw [lexL] at h k ⊢
    by_cases e1 : a = b
    · subst e1
      rw [if_pos rfl] at h
      by_cases e2 : a = c
      · rw [if_pos e2] at k ⊢; exact lexL_trans h k
      · rw [if_neg e2] at k ⊢; exact k
    · rw [if_neg e1] at h
      have h' := of_decide_eq_true h
      by_cases e2 : b = c
      · subst e2; rw [if_neg e1]; exact h
      · rw [if_neg e2] at k
        have k' := of_decide_eq_true k
        rw [if_neg (by omega)]
        exact decide_eq_true (by omega)
theorem lexL_total : ∀ {x y : List Int}, lexL x y = false → lexL y x = false → x = y
  | [], [], _, _ => rfl
  | [], _ :: _, h, _ => by cases h
  | _ :: _, [], _, h => by cases h
  | a :: x, b :: y, h, k => by
    rw [lexL] at h k
    by_cases e : a = b
    · subst e
      rw [if_pos rfl] at h k
      rw [lexL_total h k]
    · rw [if_neg e] at h
      rw [if_neg (fun q => e q.symm)] at k
      have h' := of_decide_eq_false h
      have k' := of_decide_eq_false k
      omega
theorem lexL_asymm {x y : List Int} (h : lexL x y = true) : lexL y x = false := by
  cases k : lexL y x
  · rfl
  · have := lexL_trans h k
    rw [lexL_irrefl] at this; cases this
theorem lexL_ntrans {x y z : List Int} (h : lexL x y = false) (k : lexL y z = false) : lexL x z = false := by
  cases q : lexL x z
  · rfl
  · cases r : lexL y x
    · have := lexL_total h r
      subst this
      rw [q] at k; cases k
    · have := lexL_trans r q
      rw [this] at k; cases k
/-- Rows in order, each once. -/
def SSL (l : List (List Int)) : Prop := l.Pairwise fun x y => lexL x y = true
theorem SSL.uniq : ∀ {xs ys : List (List Int)}, SSL xs → SSL ys → (∀ z, z ∈ xs ↔ z ∈ ys) → xs = ys
  | [], [], _, _, _ => rfl
  | [], y :: ys, _, _, h => by have := (h y).2 (by simp); cases this
  | x :: xs, [], _, _, h => by have := (h x).1 (by simp); cases this
  | x :: xs, y :: ys, h1, h2, h => by
    obtain ⟨a1, a2⟩ := List.pairwise_cons.1 h1
    obtain ⟨b1, b2⟩ := List.pairwise_cons.1 h2
    have e : x = y := by
      rcases List.mem_cons.1 ((h x).1 (by simp)) with e | e
      · exact e
      · rcases List.mem_cons.1 ((h y).2 (by simp)) with e' | e'
        · exact e'.symm
        · have q1 := b1 x e
          have q2 := a1 y e'
          rw [lexL_asymm q1] at q2; cases q2
    subst e
    have key : ∀ z, z ∈ xs ↔ z ∈ ys := fun z => by
      constructor
      · intro hz
        rcases List.mem_cons.1 ((h z).1 (List.mem_cons_of_mem _ hz)) with e | e
        · subst e; have := a1 z hz; rw [lexL_irrefl] at this; cases this
        · exact e
      · intro hz
        rcases List.mem_cons.1 ((h z).2 (List.mem_cons_of_mem _ hz)) with e | e
        · subst e; have := b1 z hz; rw [lexL_irrefl] at this; cases this
        · exact e
    rw [SSL.uniq a2 b2 key]
/-- One row laid into its place. -/
def insL (x : List Int) : List (List Int) → List (List Int)
  | [] => [x]
  | y :: ys => if lexL x y then x :: y :: ys else if lexL y x then y :: insL x ys else y :: ys
theorem insL_mem (x z : List Int) : ∀ ys : List (List Int), z ∈ insL x ys ↔ z = x ∨ z ∈ ys
  | [] => by simp [insL]
  | y :: ys => by
    rw [insL]
    split
    · simp
    · split
      · rw [List.mem_cons, insL_mem x z ys, List.mem_cons]
        constructor
        · rintro (h | h | h) <;> simp [h]
        · rintro (h | h | h) <;> simp [h]
      · rename_i h1 h2
        have e := lexL_total (by simpa using h1) (by simpa using h2)
        subst e
        simp
theorem insL_ss (x : List Int) : ∀ {ys : List (List Int)}, SSL ys → SSL (insL x ys)
  | [], _ => by unfold insL SSL; simp
  | y :: ys, h => by
    obtain ⟨a1, a2⟩ := List.pairwise_cons.1 h
    rw [insL]
    split
    · rename_i h1
      refine List.pairwise_cons.2 ⟨fun z hz => ?_, h⟩
      rcases List.mem_cons.1 hz with e | e
      · rw [e]; exact h1
      · exact lexL_trans h1 (a1 z e)
    · split
      · rename_i h1 h2
        refine List.pairwise_cons.2 ⟨fun z hz => ?_, insL_ss x a2⟩
        rcases (insL_mem x z ys).1 hz with e | e
        · rw [e]; exact h2
        · exact a1 z e
      · exact h
/-- The different rows in order. -/
def onceL (l : List (List Int)) : List (List Int) := l.foldr insL []
theorem onceL_mem (z : List Int) : ∀ l : List (List Int), z ∈ onceL l ↔ z ∈ l
  | [] => by simp [onceL]
  | x :: l => by
    show z ∈ insL x (onceL l) ↔ _
    rw [insL_mem, onceL_mem z l, List.mem_cons]
theorem onceL_ss : ∀ l : List (List Int), SSL (onceL l)
  | [] => List.Pairwise.nil
  | x :: l => insL_ss x (onceL_ss l)
theorem SSL.once {ys l : List (List Int)} (h : SSL ys) (hm : ∀ z, z ∈ ys ↔ z ∈ l) : ys = onceL l := h.uniq (onceL_ss l) fun z => (hm z).trans (onceL_mem z l).symm
theorem onceL_idem {l : List (List Int)} (h : SSL l) : onceL l = l := (h.once fun _ => Iff.rfl).symm
theorem insL_len (x : List Int) : ∀ ys : List (List Int), (insL x ys).length ≤ ys.length + 1
  | [] => by simp [insL]
  | y :: ys => by
    rw [insL]
    have := insL_len x ys
    split
    · simp
    · split <;> simp <;> omega
theorem onceL_len : ∀ l : List (List Int), (onceL l).length ≤ l.length
  | [] => by simp [onceL]
  | x :: l => by
    have h1 := onceL_len l
    have h2 := insL_len x (onceL l)
    show (insL x (onceL l)).length ≤ _
    rw [List.length_cons]; omega
theorem SSL.snoc {ys : List (List Int)} {x : List Int} (h : SSL ys) (hx : ∀ z ∈ ys, lexL z x = true) : SSL (ys ++ [x]) :=
  List.pairwise_append.2 ⟨h, by simp, fun a ha b hb => by rw [List.mem_singleton.1 hb]; exact hx a ha⟩
/-- Where merging stands: i rows of a, k rows of b are passed. -/
structure MrgI (a b : List (List Int)) (i k : Nat) (out : List (List Int)) : Prop where
  ss : SSL out
  mem : ∀ z, (z ∈ out ∨ a[i]? = some z) ↔ (z ∈ a.take (i + 1) ∨ z ∈ b.take k)
  lowA : ∀ z ∈ out, ∀ y ∈ a.drop i, lexL z y = true
  lowB : ∀ z ∈ out, ∀ y ∈ b.drop k, lexL z y = true
theorem take_drop_at {l : List (List Int)} {i : Nat} {x : List Int} (h : l[i]? = some x) : l.drop i = x :: l.drop (i + 1) := by
  obtain ⟨h1, rfl⟩ := List.getElem?_eq_some_iff.1 h
  exact List.drop_eq_getElem_cons h1
theorem mem_take_succ {l : List (List Int)} {i : Nat} {x : List Int} (h : l[i]? = some x) (z : List Int) : z ∈ l.take (i + 1) ↔ z ∈ l.take i ∨ z = x := by
  rw [List.take_add_one, h]; simp
theorem SSL.rest {l : List (List Int)} {i : Nat} {x : List Int} (hl : SSL l) (h : l[i]? = some x) : ∀ y ∈ l.drop (i + 1), lexL x y = true := by
  have : SSL (l.drop i) := List.Pairwise.sublist (List.drop_sublist _ _) hl
  rw [take_drop_at h] at this
  exact (List.pairwise_cons.1 this).1
theorem MrgI.start (a b : List (List Int)) : MrgI a b 0 0 [] := by
  refine ⟨List.Pairwise.nil, fun z => ?_, (fun z h => by cases h), (fun z h => by cases h)⟩
  cases a with
  | nil => simp
  | cons x a => simp [eq_comm]
theorem MrgI.stepA {a b out : List (List Int)} {i k : Nat} {x : List Int} (h : MrgI a b i k out) (ha : SSL a) (hb : SSL b) (hx : a[i]? = some x) (hk : ∀ y, b[k]? = some y → lexL x y = true) : MrgI a b (i + 1) k (out ++ [x]) := by
  have hxd : x ∈ a.drop i := by rw [take_drop_at hx]; simp
  refine ⟨h.ss.snoc fun z hz => h.lowA z hz x hxd, fun z => ?_, fun z hz y hy => ?_, fun z hz y hy => ?_⟩
  · have hm := h.mem z
    rw [hx, Option.some.injEq] at hm
    rw [List.mem_append, List.mem_singleton, eq_comm (a := z) (b := x)]
    cases hn : a[i + 1]? with
    | none =>
      rw [List.take_of_length_le (by have := List.getElem?_eq_none_iff.1 hn; omega)]
      rw [List.take_of_length_le (by have := List.getElem?_eq_none_iff.1 hn; omega)] at hm
      rw [← hm]; simp
    | some x' =>
      rw [mem_take_succ hn, Option.some.injEq, eq_comm (a := x') (b := z)]
      constructor
      · rintro (q | q)
        · rcases hm.1 q with q | q
          · exact .inl (.inl q)
          · exact .inr q
        · exact .inl (.inr q)
      · rintro ((q | q) | q)
        · exact .inl (hm.2 (.inl q))
        · exact .inr q
        · exact .inl (hm.2 (.inr q))
  · rcases List.mem_append.1 hz with e | e
    · exact h.lowA z e y (by rw [take_drop_at hx]; exact List.mem_cons_of_mem _ hy)
    · rw [List.mem_singleton.1 e]; exact ha.rest hx y hy
  · rcases List.mem_append.1 hz with e | e
    · exact h.lowB z e y hy
    · rw [List.mem_singleton.1 e]
      cases hn : b[k]? with
      | none => rw [List.drop_of_length_le (List.getElem?_eq_none_iff.1 hn)] at hy; cases hy
      | some y' =>
        rw [take_drop_at hn] at hy
        rcases List.mem_cons.1 hy with q | q
        · rw [q]; exact hk y' hn
        · exact lexL_trans (hk y' hn) (hb.rest hn y q)
theorem MrgI.stepB {a b out : List (List Int)} {i k : Nat} {x : List Int} (h : MrgI a b i k out) (ha : SSL a) (hb : SSL b) (hx : b[k]? = some x) (hk : ∀ y, a[i]? = some y → lexL x y = true) : MrgI a b i (k + 1) (out ++ [x]) := by
  have hxd : x ∈ b.drop k := by rw [take_drop_at hx]; simp
  refine ⟨h.ss.snoc fun z hz => h.lowB z hz x hxd, fun z => ?_, fun z hz y hy => ?_, fun z hz y hy => ?_⟩
  · have hm := h.mem z
    rw [List.mem_append, List.mem_singleton, mem_take_succ hx]
    constructor
    · rintro ((q | q) | q)
      · rcases hm.1 (.inl q) with q | q
        · exact .inl q
        · exact .inr (.inl q)
      · exact .inr (.inr q)
      · rcases hm.1 (.inr q) with q | q
        · exact .inl q
        · exact .inr (.inl q)
    · rintro (q | q | q)
      · rcases hm.2 (.inl q) with q | q
        · exact .inl (.inl q)
        · exact .inr q
      · rcases hm.2 (.inr q) with q | q
        · exact .inl (.inl q)
        · exact .inr q
      · exact .inl (.inr q)
  · rcases List.mem_append.1 hz with e | e
    · exact h.lowA z e y hy
    · rw [List.mem_singleton.1 e]
      cases hn : a[i]? with
      | none => rw [List.drop_of_length_le (List.getElem?_eq_none_iff.1 hn)] at hy; cases hy
      | some y' =>
        rw [take_drop_at hn] at hy
        rcases List.mem_cons.1 hy with q | q
        · rw [q]; exact hk y' hn
        · exact lexL_trans (hk y' hn) (ha.rest hn y q)
  · rcases List.mem_append.1 hz with e | e
    · exact h.lowB z e y (by rw [take_drop_at hx]; exact List.mem_cons_of_mem _ hy)
    · rw [List.mem_singleton.1 e]; exact hb.rest hx y hy
theorem MrgI.stepC {a b out : List (List Int)} {i k : Nat} {x y : List Int} (h : MrgI a b i k out) (hx : a[i]? = some x) (hy : b[k]? = some y) (h1 : lexL x y = false) (h2 : lexL y x = false) : MrgI a b i (k + 1) out := by
  have e := lexL_total h1 h2
  subst e
  refine ⟨h.ss, fun z => ?_, h.lowA, fun z hz y hy' => h.lowB z hz y (by rw [take_drop_at hy]; exact List.mem_cons_of_mem _ hy')⟩
  rw [h.mem z, mem_take_succ hy]
  constructor
  · rintro (q | q)
    · exact .inl q
    · exact .inr (.inl q)
  · rintro (q | q | q)
    · exact .inl q
    · exact .inr q
    · subst q; exact .inl (by rw [List.take_add_one, hx]; simp)
theorem MrgI.done {a b out : List (List Int)} {i k : Nat} (h : MrgI a b i k out) (hi : a.length ≤ i) (hk : b.length ≤ k) : out = onceL (a ++ b) := by
  refine h.ss.once fun z => ?_
  have hm := h.mem z
  rw [List.getElem?_eq_none hi, List.take_of_length_le (by omega), List.take_of_length_le hk] at hm
  rw [List.mem_append, ← hm]; simp
theorem onceL_app (a b : List (List Int)) : onceL (onceL a ++ onceL b) = onceL (a ++ b) :=
  (onceL_ss _).uniq (onceL_ss _) fun z => by rw [onceL_mem, onceL_mem, List.mem_append, List.mem_append, onceL_mem, onceL_mem]
theorem MrgI.len {a b out : List (List Int)} {i k : Nat} (h : MrgI a b i k out) (hi : i ≤ a.length) (hk : k ≤ b.length) : out.length ≤ a.length + b.length := by
  have e : out = onceL out := (onceL_idem h.ss).symm
  have h1 : out = onceL (out.filter fun z => (a ++ b).contains z) := h.ss.once fun z => by
    rw [List.mem_filter]
    constructor
    · intro hz
      refine ⟨hz, ?_⟩
      rw [List.contains_iff_mem, List.mem_append]
      rcases (h.mem z).1 (.inl hz) with q | q
      · exact .inl (List.mem_of_mem_take q)
      · exact .inr (List.mem_of_mem_take q)
    · exact fun hz => hz.1
  have h2 : ∀ (xs ys : List (List Int)), SSL xs → (∀ z ∈ xs, z ∈ ys) → xs.length ≤ ys.length := by
    intro xs
    induction xs with
    | nil => intro ys _ _; simp
    | cons x xs ih =>
      intro ys hs hm
      obtain ⟨a1, a2⟩ := List.pairwise_cons.1 hs
      have := ih (ys.erase x) a2 fun z hz => by
        refine (List.mem_erase_of_ne ?_).2 (hm z (List.mem_cons_of_mem _ hz))
        intro q
        subst q
        have := a1 z hz
        rw [lexL_irrefl] at this; cases this
      have hx := hm x (by simp)
      rw [List.length_erase_of_mem hx] at this
      have : 0 < ys.length := List.length_pos_of_mem hx
      rw [List.length_cons]; omega
  have := h2 out (a ++ b) h.ss fun z hz => by
    rw [List.mem_append]
    rcases (h.mem z).1 (.inl hz) with q | q
    · exact .inl (List.mem_of_mem_take q)
    · exact .inr (List.mem_of_mem_take q)
  rwa [List.length_append] at this
end Go.Proofs.YtooiobcghobefaaGreatDoor
