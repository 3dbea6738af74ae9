/-
  Walks of the laws' helpers over lists of dependencies: copies, comparisons.
  Conditions: as each theorem says.
-/
import Derived.Test.YtgoggljmifjlfaaDeps
namespace Go.Proofs.Ytgoggljmifjlfaa
open Go.RowKit
set_option linter.unusedVariables false

set_option maxHeartbeats 1600000 in
set_option maxRecDepth 100000 in
theorem eqDeps (A B : Option Addr) (n c m d : Nat) (xs : List (Int × Int)) (w : World) (hx : DepsAt w w.heap.size A n xs) (hy : DepsAt w w.heap.size B m xs) :
    Calls Try.prog 28 #[.slice A n c, .slice B m d] w (RetVal w (.bool true)) := by
  obtain rfl : n = m := hx.1.symm.trans hy.1
  have hn := deps_bound hx
  have lx := hide hx.1
  go_enter Try.func28, Try.ntmps28
  go_wp2_with fail
  go_loopw [5] (fun i wr => ∃ k : Nat, k ≤ n ∧ i = .int .i64 (k : Int) ∧ Below w.heap.size w wr) (fun i _ => n - (intOf i).toNat)
  case atStart => exact ⟨0, Nat.zero_le _, rfl, Below.refl _ _⟩
  case round =>
    obtain ⟨k, hk, rfl, hb⟩ := hrel
    by_cases hlt : k < n
    · obtain ⟨b, o, x1, x2, rfl, hbb, hx1, hc1, hc2⟩ := at_dep (hx.later hb) hlt
      obtain ⟨b', o', y1, y2, rfl, hbb', hy1, hc3, hc4⟩ := at_dep (hy.later hb) hlt
      obtain ⟨rfl, rfl⟩ : x1 = y1 ∧ x2 = y2 := by
        rw [hx1] at hy1
        simpa using hy1
      have e := hide (beq_self_eq_true ((x1, x2) : Int × Int))
      clear hx1 hy1 hx hy
      go_wp2_with fail
      go_region_law (first | (go_simp; go_at_call 53; refine (eqDep_any _ _ _ _ _).mono ?_; rintro e w3 ⟨rfl, hb3⟩; rw [e.out]))
      all_goals
        go_wp2_with fail
        go_roundw
        case rel => exact ⟨k + 1, by omega, by go_num, hb.drew.trans (hb3.mono hb.size)⟩
        case measure => simp [intOf]; omega
    · obtain rfl : k = n := by omega
      go_wp2_with fail
      go_ret
      exact ⟨rfl, hb⟩

/-- The cells of a list of dependencies. -/
def flatD (ds : List (Int × Int)) : List Value := ds.flatMap fun d => [.int .i64 d.1, .int .i64 d.2]
theorem flatD_len (ds : List (Int × Int)) : (flatD ds).length = ds.length * 2 := by
  induction ds with
  | nil => rfl
  | cons d l ih => show (_ :: _ :: flatD l).length = _; simp only [List.length_cons, ih]; omega
theorem flatD_snoc (ds : List (Int × Int)) (x y : Int) : flatD (ds ++ [(x, y)]) = flatD ds ++ [.int .i64 x, .int .i64 y] := by simp [flatD]
theorem flatD_at : ∀ (ds : List (Int × Int)) (i : Nat) (d : Int × Int), ds[i]? = some d → (flatD ds)[i * 2]? = some (.int .i64 d.1) ∧ (flatD ds)[i * 2 + 1]? = some (.int .i64 d.2)
  | [], i, d, h => by simp at h
  | a :: l, 0, d, h => by
    simp at h
    subst h
    exact ⟨rfl, rfl⟩
  | a :: l, i + 1, d, h => by
    have := flatD_at l i d (by simpa using h)
    have e : flatD (a :: l) = .int .i64 a.1 :: .int .i64 a.2 :: flatD l := rfl
    rw [e, show (i + 1) * 2 = i * 2 + 1 + 1 by omega]
    exact ⟨by simpa using this.1, by simpa using this.2⟩
theorem own_deps {w : World} {B n c : Nat} {A : Option Addr} {ds : List (Int × Int)} (h : w.ownsRow B 40 2 (.slice A n c) n (flatD ds)) : DepsAt w w.heap.size A n ds := by
  have h1 : ds.length = n := by have := h.1; rw [flatD_len] at this; omega
  rcases h.2 with ⟨hv, hn⟩ | ⟨g, cap, cur, hv, hg, hh, hnc, hm, hs, ht⟩
  · subst hn
    exact ⟨h1, by unfold maxLen; omega, fun h => absurd h (by omega)⟩
  · injection hv with hA
    subst hA
    refine ⟨h1, by omega, fun hn => ⟨g, 0, rfl, (Array.getElem?_eq_some_iff.1 hh).1, fun i d hi => ?_⟩⟩
    obtain ⟨f1, f2⟩ := flatD_at ds i d hi
    have c1 := h.cells (g := g) rfl _ _ f1
    have c2 := h.cells (g := g) rfl _ _ f2
    rw [add_lit] at c1 c2
    exact ⟨by rw [Nat.zero_add]; exact c1, by rw [Nat.zero_add]; exact c2⟩

theorem infoDep : (Try.prog.info? 40).map (fun i => (i.zero, i.size, i.bytes)) = some (some (.agg #[.int .i64 0, .int .i64 0]), 2, 16) := by kernel_rfl
/-- A list of dependencies in the call's own memory. -/
def RetDeps (w : World) (ds : List (Int × Int)) (e : Ending) (w' : World) : Prop :=
  ∃ A n c, e = .returned (.slice A n c) ∧ DepsAt w' w'.heap.size A n ds ∧ Below w.heap.size w w'

set_option maxHeartbeats 1600000 in
set_option maxRecDepth 100000 in
theorem toDeps (A : Option Addr) (n c : Nat) (ds : List (Int × Int)) (w : World) (hx : DepsAt w w.heap.size A n ds) (hb0 : n ≤ 1048576) :
    Calls Try.prog 26 #[.slice A n c] w (RetDeps w ds) := by
  have lx := hide hx.1
  obtain ⟨i, hi, hz, hz1, hz2⟩ := info_parts infoDep
  go_enter Try.func26, Try.ntmps26
  go_wp2_with (at_make; refine wpList_make_full _ rfl _ _ 34 rfl w.heap.size 40 i (.agg #[.int .i64 0, .int .i64 0]) 2 Try.underlying34 hi hz hz1 .i64 .i64 _ _ n rfl rfl rfl rfl (by rw [hz2]; omega) (by unfold maxLen; omega) (Nat.le_refl _) ?_; intro w1 hown hg)
  have hb : Below w.heap.size w w1 := (Below.refl _ _).grown hg (Nat.le_refl _) (by intro k hk; cases hk)
  have hgw : w.heap.size < w1.heap.size := (hown.lt _ rfl).2
  clear hi hz hz1 hz2 hg
  go_loopw [4] (fun i wr => ∃ k : Nat, k ≤ n ∧ i = .int .i64 (k : Int) ∧ (∃ rest, rest.length = (n - k) * 2 ∧ wr.ownsRow w.heap.size 40 2 (.slice (some ⟨w.heap.size, 0, none⟩) n n) n (flatD (ds.take k) ++ rest)) ∧ Below w.heap.size w wr) (fun i _ => n - (intOf i).toNat)
  case atStart => exact ⟨0, by omega, rfl, ⟨_, by rw [Nat.sub_zero]; exact hown.1, by simpa only [flatD, List.take_zero, List.flatMap_nil, List.nil_append] using hown⟩, hb⟩
  case round =>
    obtain ⟨k, hk, rfl, ⟨rest, hrest, hown⟩, hb⟩ := hrel
    by_cases hlt : k < n
    · obtain ⟨b, o, x, y, rfl, hbb, hx1, hc1, hc2⟩ := at_dep (hx.later hb) hlt
      match rest, hrest with
      | [], hr => simp at hr; omega
      | [_], hr => simp at hr; omega
      | u :: v :: rest, hr =>
        have hr' := hide (show rest.length = (n - (k + 1)) * 2 by simp at hr; omega)
        have hkl : (flatD (ds.take k)).length = k * 2 := by rw [flatD_len, List.length_take, lx.out]; omega
        have htk : ds.take (k + 1) = ds.take k ++ [(x, y)] := by rw [List.take_add_one, hx1]; rfl
        replace htk := hide htk
        clear hx1 hr
        go_wp2_with fail
        refine (toDep_any _ _ _).mono ?_
        rintro e w2 ⟨rfl, hb2⟩
        replace hown := hown.kept (row := none) ⟨hb2.os, hb2.tape, hb2.output, hb2.size, fun k hk _ => hb2.block k hk⟩ (by right; simp [Value.ownBlock])
        have f0 := hown.cellAt (k * 2) (by omega)
        rw [List.getElem?_append_right (by omega), hkl, Nat.sub_self] at f0
        have f1 := hown.cellAt (k * 2 + 1) (by omega)
        rw [List.getElem?_append_right (by omega), hkl, show k * 2 + 1 - k * 2 = 1 by omega] at f1
        simp only [List.getElem?_cons_zero, List.getElem?_cons_succ] at f0 f1
        have z0 := hown.frozenAt (k * 2)
        have z1 := hown.frozenAt (k * 2 + 1)
        have hb3 := hb.trans (hb2.mono hb.size)
        replace hkl := hide hkl
        clear hc1 hc2 hb2 hb
        go_wp2_with fail
        have s1 := hown.stored (k * 2) (.int .i64 x)
        have s2 := s1.1.stored (k * 2 + 1) (.int .i64 y)
        have e : ((flatD (ds.take k) ++ u :: v :: rest).set (k * 2) (.int .i64 x)).set (k * 2 + 1) (.int .i64 y) = flatD (ds.take (k + 1)) ++ rest := by
          rw [List.set_append_right _ _ (by rw [hkl.out]; exact Nat.le_refl _), hkl.out, Nat.sub_self, List.set_cons_zero, List.set_append_right _ _ (by rw [hkl.out]; omega), hkl.out, show k * 2 + 1 - k * 2 = 1 by omega, List.set_cons_succ, List.set_cons_zero, htk.out, flatD_snoc, List.append_assoc]
          rfl
        rw [e] at s2
        clear e
        go_roundw
        case rel => exact ⟨k + 1, by omega, by go_num, ⟨rest, hr'.out, s2.1⟩, (hb3.setCell (Nat.le_refl _) _).setCell (Nat.le_refl _) _⟩
        case measure => simp [intOf]; omega
    · obtain rfl : k = n := by omega
      obtain rfl : rest = [] := List.eq_nil_of_length_eq_zero (by rw [hrest]; omega)
      rw [List.take_of_length_le (by rw [lx.out]; exact Nat.le_refl _), List.append_nil] at hown
      go_wp2_with fail
      go_ret
      exact ⟨_, _, _, rfl, own_deps hown, hb⟩
end Go.Proofs.Ytgoggljmifjlfaa
