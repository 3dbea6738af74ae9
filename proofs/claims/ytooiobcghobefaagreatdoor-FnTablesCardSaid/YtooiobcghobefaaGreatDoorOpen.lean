/-
  Arguments that came in, opened: a dependency, a list of numbers, a list of lists, a table, a list of dependencies.
  Conditions: none; these are lemmas on what can be read as data.
-/
import Derived.Test.YtooiobcghobefaaGreatDoorWords
import Derived.Lib.SmallJoins
import Derived.Deep.Slices
import Derived.Deep.Fields
namespace Go.Proofs.YtooiobcghobefaaGreatDoor
open Go.RowKit Go.Joins Go.ChangeShapes Go.WideShapes Go.Deep

section
variable {H : Type} {enc : TypeId × Value → H} {P : Program} {w : World} {base : Nat} {spare : Nat → Bool} {held : Bool}

theorem open_Dep {r : Reach} {b0 : Nat} {t : TypeId} {f0 f1 : Field} {v : Value} {d : DataW H} {p : List MemPlace} (hs : P.underlying t = some (.struct #[f0, f1])) (hone : oneCellFields P #[f0, f1] = true) (hC : P.cellsOf t = 2)
    (h0 : P.underlying f0.type = some (.int .i64)) (h1 : P.underlying f1.type = some (.int .i64)) (hv : Value.okWide P w r b0 t v) (h : DataW.Trod enc P w base spare held t v d p) :
    ∃ x y : Int, v = .agg #[.int .i64 x, .int .i64 y] ∧ (Lit.int .i64 x).wf = true ∧ (Lit.int .i64 y).wf = true := by
  obtain ⟨c0, c1, y0, y1, m, rfl, _, _, hy0, hy1⟩ := open_agg2 hs hone hC hv h
  obtain ⟨x, e0, _, wx⟩ := DataW.trod_int h0 hy0
  obtain ⟨y, e1, _, wy⟩ := DataW.trod_int h1 hy1
  simp only [List.cons.injEq, and_true] at e0 e1
  subst e0 e1
  exact ⟨x, y, rfl, wx, wy⟩

def Fits (zs : List Int) : Prop := ∀ z ∈ zs, -9223372036854775808 ≤ z ∧ z ≤ 9223372036854775807

theorem open_ints1 {t e : TypeId} {A : Option Addr} {n c fuel : Nat} {x : DataW H × List MemPlace} (ht : P.underlying t = some (.slice e)) (he : P.underlying e = some (.int .i64)) (hc : P.cellsOf e = 1)
    (h : DataW.trod enc P w base spare held fuel t [.slice A n c] = some x) : ∃ zs : List Int, Reads w w.heap.size A n (zs.map (Value.int .i64)) ∧ Fits zs := by
  rcases open_ints ht he hc h with ⟨hcs, _⟩ | ⟨a, len, cap, zs, hcs, _, hl, hm, hz, _, hcell, hwz⟩
  · simp only [List.cons.injEq, Value.slice.injEq, and_true] at hcs
    obtain ⟨rfl, rfl, rfl⟩ := hcs
    exact ⟨[], Reads.nil_ _ _ _, fun z hz => by cases hz⟩
  · simp only [List.cons.injEq, Value.slice.injEq, and_true] at hcs
    obtain ⟨rfl, rfl, rfl⟩ := hcs
    have hlz : n ≤ zs.length := by rw [hz]; split <;> omega
    refine ⟨zs.take n, ⟨by simp [hlz], by unfold maxLen at *; omega, fun hn => ?_⟩, fun z hz => bounds_i64 (hwz z (List.mem_of_mem_take hz))⟩
    obtain ⟨b, off, rfl, hcc⟩ := ints_at hcell (by omega)
    have h00 := hcc 0 (by omega)
    refine ⟨b, off, rfl, World.block_lt_of_cell? w ⟨b, off + 0, none⟩ h00, fun j u hu => ?_⟩
    have hj : j < n := by
      have := (List.getElem?_eq_some_iff.1 hu).1
      simp at this; omega
    rw [hcc j (by omega), ← hu, List.getElem?_map, List.getElem?_take, if_pos hj, List.getElem?_eq_getElem (by omega), List.getD_eq_getElem?_getD, List.getElem?_eq_getElem (by omega)]
    rfl

theorem open_Ints {t e : TypeId} {A : Option Addr} {n c : Nat} {d : DataW H} {p : List MemPlace} (ht : P.underlying t = some (.slice e)) (he : P.underlying e = some (.int .i64)) (hc : P.cellsOf e = 1)
    (h : DataW.Trod enc P w base spare held t (.slice A n c) d p) : ∃ zs : List Int, Reads w w.heap.size A n (zs.map (Value.int .i64)) ∧ Fits zs := by
  obtain ⟨fuel, hf⟩ := h
  exact open_ints1 (c := c) ht he hc (by simpa [Value.cells] using hf)

/-- A list of lists of numbers in memory: the rows' own slice values are vs. -/
def RowsAt (w : World) (B : Nat) (A : Option Addr) (n : Nat) (zss : List (List Int)) : Prop :=
  zss.length = n ∧ ∃ vs : List Value, Reads w B A n vs ∧ ∀ (i : Nat) (zs : List Int), zss[i]? = some zs → ∃ (A' : Option Addr) (c' : Nat), vs[i]? = some (Value.slice A' zs.length c') ∧ Reads w B A' zs.length (zs.map (Value.int .i64))

theorem RowsAt.keep {w w' : World} {B : Nat} {A : Option Addr} {n : Nat} {zss : List (List Int)} (h : RowsAt w B A n zss) (hk : ∀ p : Addr, p.block < B → w'.cell? p = w.cell? p) : RowsAt w' B A n zss := by
  obtain ⟨h1, vs, h2, h3⟩ := h
  refine ⟨h1, vs, h2.keep hk, fun i zs hi => ?_⟩
  obtain ⟨A', c', h4, h5⟩ := h3 i zs hi
  exact ⟨A', c', h4, h5.keep hk⟩
theorem RowsAt.below {w w' : World} {B : Nat} {A : Option Addr} {n : Nat} {zss : List (List Int)} (h : RowsAt w B A n zss) (hb : Below B w w') : RowsAt w' B A n zss := h.keep fun _ hp => hb.cell hp
theorem RowsAt.more {w : World} {B B' : Nat} {A : Option Addr} {n : Nat} {zss : List (List Int)} (h : RowsAt w B A n zss) (hB : B ≤ B') : RowsAt w B' A n zss := by
  obtain ⟨h1, vs, h2, h3⟩ := h
  refine ⟨h1, vs, h2.more hB, fun i zs hi => ?_⟩
  obtain ⟨A', c', h4, h5⟩ := h3 i zs hi
  exact ⟨A', c', h4, h5.more hB⟩

theorem open_rows1 {t e q : TypeId} {A : Option Addr} {n c fuel : Nat} {x : DataW H × List MemPlace} (ht : P.underlying t = some (.slice e)) (hce : P.cellsOf e = 1) (he : P.underlying e = some (.slice q)) (hq : P.underlying q = some (.int .i64)) (hcq : P.cellsOf q = 1)
    (h : DataW.trod enc P w base spare held fuel t [.slice A n c] = some x) : ∃ zss : List (List Int), RowsAt w w.heap.size A n zss ∧ ∀ zs ∈ zss, Fits zs := by
  rcases open_slice1 ht hce h with ⟨hcs, _⟩ | ⟨a, len, cap, m, k, V, D, Pl, hcs, _, hl, hm, hmm, _, hcell⟩
  · simp only [List.cons.injEq, Value.slice.injEq, and_true] at hcs
    obtain ⟨rfl, rfl, rfl⟩ := hcs
    exact ⟨[], ⟨rfl, [], Reads.nil_ _ _ _, fun i zs hi => by simp at hi⟩, fun z hz => by cases hz⟩
  · simp only [List.cons.injEq, Value.slice.injEq, and_true] at hcs
    obtain ⟨rfl, rfl, rfl⟩ := hcs
    have hnm : n ≤ m := by rw [hmm]; split <;> omega
    have hrow : ∀ i, i < n → ∃ zs : List Int, ∃ A' c', V i = .slice A' zs.length c' ∧ Reads w w.heap.size A' zs.length (zs.map (Value.int .i64)) ∧ Fits zs := by
      intro i hi
      obtain ⟨_, h2⟩ := hcell i (by omega)
      obtain ⟨A', n', c', hV⟩ : ∃ A' n' c', V i = .slice A' n' c' := by
        rcases DataW.trod_slice he h2 with h0 | ⟨a', len', cap', _, _, _, _, hv, _⟩
        · exact ⟨none, 0, 0, by simpa using h0.1⟩
        · exact ⟨some a', len', cap', by simpa using hv⟩
      rw [hV] at h2
      obtain ⟨zs, r1, r2⟩ := open_ints1 (c := c') he hq hcq h2
      have : zs.length = n' := by have := r1.len; simpa using this
      subst this
      exact ⟨zs, A', c', hV, r1, r2⟩
    obtain ⟨Z, hZ⟩ := choose_lt (α := List Int) hrow
    refine ⟨(List.range n).map Z, ⟨by simp, (List.range n).map V, ⟨by simp, by unfold maxLen at *; omega, fun hn => ?_⟩, fun i zs hi => ?_⟩, fun zs hz => ?_⟩
    · have h00 := (hcell 0 (by omega)).1
      obtain ⟨b, off, spot⟩ := a
      have hspot : spot = none := by simpa [Addr.add] using World.cell?_spot h00
      subst hspot
      refine ⟨b, off, rfl, ?_, fun j u hu => ?_⟩
      · have := World.block_lt_of_cell? w _ h00
        rwa [block_of_add] at this
      · have hj : j < n := by
          have := (List.getElem?_eq_some_iff.1 hu).1
          simpa using this
        have := (hcell j (by omega)).1
        rw [Go.WideShapes.add_plain] at this
        rw [this, ← hu, List.getElem?_map, List.getElem?_range hj]
        rfl
    · have hi' : i < n := by
        have := (List.getElem?_eq_some_iff.1 hi).1
        simpa using this
      rw [List.getElem?_map, List.getElem?_range hi'] at hi
      simp only [Option.map_some, Option.some.injEq] at hi
      subst hi
      obtain ⟨A', c', h1, h2, _⟩ := hZ i hi'
      exact ⟨A', c', by rw [List.getElem?_map, List.getElem?_range hi', Option.map_some, h1], h2⟩
    · rw [List.mem_map] at hz
      obtain ⟨i, hi, rfl⟩ := hz
      exact (hZ i (List.mem_range.1 hi)).choose_spec.choose_spec.2.2

theorem open_Rows {t e q : TypeId} {A : Option Addr} {n c : Nat} {d : DataW H} {p : List MemPlace} (ht : P.underlying t = some (.slice e)) (hce : P.cellsOf e = 1) (he : P.underlying e = some (.slice q)) (hq : P.underlying q = some (.int .i64)) (hcq : P.cellsOf q = 1)
    (h : DataW.Trod enc P w base spare held t (.slice A n c) d p) : ∃ zss : List (List Int), RowsAt w w.heap.size A n zss ∧ ∀ zs ∈ zss, Fits zs := by
  obtain ⟨fuel, hf⟩ := h
  exact open_rows1 (c := c) ht hce he hq hcq (by simpa [Value.cells] using hf)

theorem open_Table {r : Reach} {b0 : Nat} {t e q : TypeId} {f0 f1 : Field} {v : Value} {d : DataW H} {p : List MemPlace} (hs : P.underlying t = some (.struct #[f0, f1])) (hone : oneCellFields P #[f0, f1] = true) (hC : P.cellsOf t = 2)
    (h0 : P.underlying f0.type = some (.int .i64)) (ht : P.underlying f1.type = some (.slice e)) (hce : P.cellsOf e = 1) (he : P.underlying e = some (.slice q)) (hq : P.underlying q = some (.int .i64)) (hcq : P.cellsOf q = 1)
    (hv : Value.okWide P w r b0 t v) (h : DataW.Trod enc P w base spare held t v d p) :
    ∃ (m : Int) (A : Option Addr) (n c : Nat) (zss : List (List Int)), v = .agg #[.int .i64 m, .slice A n c] ∧ (Lit.int .i64 m).wf = true ∧ RowsAt w w.heap.size A n zss ∧ ∀ zs ∈ zss, Fits zs := by
  obtain ⟨c0, c1, y0, y1, m, rfl, _, _, hy0, hy1⟩ := open_agg2 hs hone hC hv h
  obtain ⟨x, e0, _, wx⟩ := DataW.trod_int h0 hy0
  simp only [List.cons.injEq, and_true] at e0
  subst e0
  obtain ⟨A', n', c', rfl⟩ : ∃ A' n' c', c1 = .slice A' n' c' := by
    rcases DataW.trod_slice ht hy1 with hn | ⟨a', len', cap', _, _, _, _, hv, _⟩
    · exact ⟨none, 0, 0, by simpa using hn.1⟩
    · exact ⟨some a', len', cap', by simpa using hv⟩
  obtain ⟨zss, r1, r2⟩ := open_rows1 (c := c') ht hce he hq hcq hy1
  exact ⟨x, A', n', c', zss, rfl, wx, r1, r2⟩

/-- A list of dependencies in memory. -/
def DepsAt (w : World) (B : Nat) (A : Option Addr) (n : Nat) (ds : List (Int × Int)) : Prop :=
  ds.length = n ∧ n ≤ maxLen ∧ (0 < n → ∃ b o, A = some ⟨b, o, none⟩ ∧ b < B ∧ ∀ i d, ds[i]? = some d → w.cell? ⟨b, o + i * 2, none⟩ = some (.int .i64 d.1) ∧ w.cell? ⟨b, o + i * 2 + 1, none⟩ = some (.int .i64 d.2))

theorem open_Deps {t e : TypeId} {f0 f1 : Field} {A : Option Addr} {n c : Nat} {d : DataW H} {p : List MemPlace} (ht : P.underlying t = some (.slice e)) (he : P.underlying e = some (.struct #[f0, f1])) (hone : oneCellFields P #[f0, f1] = true) (hC : P.cellsOf e = 2)
    (h0 : P.underlying f0.type = some (.int .i64)) (h1 : P.underlying f1.type = some (.int .i64))
    (h : DataW.Trod enc P w base spare held t (.slice A n c) d p) : ∃ ds : List (Int × Int), DepsAt w w.heap.size A n ds ∧ ∀ d ∈ ds, Fits [d.1, d.2] := by
  obtain ⟨fuel, hf⟩ := h
  have hf' : DataW.trod enc P w base spare held fuel t [.slice A n c] = some (d, p) := by simpa [Value.cells] using hf
  rcases open_slice ht hf' with ⟨hcs, _⟩ | ⟨a, len, cap, m, k, D, Pl, hcs, _, hl, hm, hmm, _, hcell⟩
  · simp only [List.cons.injEq, Value.slice.injEq, and_true] at hcs
    obtain ⟨rfl, rfl, rfl⟩ := hcs
    exact ⟨[], ⟨rfl, by unfold maxLen; omega, fun h => absurd h (by omega)⟩, fun z hz => by cases hz⟩
  · simp only [List.cons.injEq, Value.slice.injEq, and_true] at hcs
    obtain ⟨rfl, rfl, rfl⟩ := hcs
    have hnm : n ≤ m := by rw [hmm]; split <;> omega
    rw [hC] at hcell
    obtain ⟨o0, k0⟩ := hone_of hone 0 f0 rfl
    obtain ⟨o1, k1⟩ := hone_of hone 1 f1 rfl
    have hrow : ∀ i, i < n → ∃ d : Int × Int, w.cell? (a.add (i * 2)) = some (.int .i64 d.1) ∧ w.cell? ((a.add (i * 2)).add 1) = some (.int .i64 d.2) ∧ Fits [d.1, d.2] := by
      intro i hi
      obtain ⟨cs', hc', ht'⟩ := hcell i (by omega)
      obtain ⟨ys, n', _, _, hlen, _, hfd⟩ := DataW.trod_struct he ht'
      obtain ⟨_, hcl, hat⟩ := World.cells?_some hc'
      match cs', hcl with
      | [u0, u1], _ =>
        have a0 := hfd 0 f0 rfl
        have a1 := hfd 1 f1 rfl
        rw [o0, k0] at a0
        rw [o1, k1] at a1
        obtain ⟨y0, hy0⟩ : ∃ y, ys[0]? = some y := ⟨ys[0]'(by rw [show ys.length = 2 from by assumption]; omega), List.getElem?_eq_getElem _⟩
        obtain ⟨y1, hy1⟩ : ∃ y, ys[1]? = some y := ⟨ys[1]'(by rw [show ys.length = 2 from by assumption]; omega), List.getElem?_eq_getElem _⟩
        rw [hy0] at a0
        rw [hy1] at a1
        obtain ⟨x, e0, _, wx⟩ := DataW.trod_int h0 (by simpa using a0)
        obtain ⟨y, e1, _, wy⟩ := DataW.trod_int h1 (by simpa using a1)
        simp only [List.cons.injEq, and_true] at e0 e1
        subst e0 e1
        refine ⟨(x, y), ?_, ?_, ?_⟩
        · have := hat 0 (by omega); simpa [Addr.add] using this
        · have := hat 1 (by omega); simpa using this
        · intro z hz
          simp only [List.mem_cons, List.not_mem_nil, or_false] at hz
          rcases hz with rfl | rfl
          · exact bounds_i64 wx
          · exact bounds_i64 wy
    obtain ⟨Z, hZ⟩ := choose_lt (α := Int × Int) hrow
    refine ⟨(List.range n).map Z, ⟨by simp, by unfold maxLen at *; omega, fun hn => ?_⟩, fun d hd => ?_⟩
    · have h00 := (hZ 0 (by omega)).1
      obtain ⟨b, off, spot⟩ := a
      have hspot : spot = none := by simpa [Addr.add] using World.cell?_spot h00
      subst hspot
      refine ⟨b, off, rfl, ?_, fun j u hu => ?_⟩
      · have := World.block_lt_of_cell? w _ h00
        rwa [block_of_add] at this
      · have hj : j < n := by
          have := (List.getElem?_eq_some_iff.1 hu).1
          simpa using this
        rw [List.getElem?_map, List.getElem?_range hj] at hu
        simp only [Option.map_some, Option.some.injEq] at hu
        subst hu
        obtain ⟨g1, g2, _⟩ := hZ j hj
        rw [Go.WideShapes.add_plain] at g1
        rw [add_add, Go.WideShapes.add_plain] at g2
        exact ⟨g1, by rw [Nat.add_assoc]; exact g2⟩
    · rw [List.mem_map] at hd
      obtain ⟨i, hi, rfl⟩ := hd
      exact (hZ i (List.mem_range.1 hi)).2.2
end
end Go.Proofs.YtooiobcghobefaaGreatDoor
