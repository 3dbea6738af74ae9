/-
  Walks of SameDeps and of the laws' helpers over lists of dependencies.
  Conditions: as each theorem says.
-/
import Derived.Test.YtgoggljmifjlfaaHelp
import Derived.Test.YtgoggljmifjlfaaDep
import Derived.Laws.StructEq
namespace Go.Proofs.Ytgoggljmifjlfaa
open Go.RowKit
set_option linter.unusedVariables false

theorem at_dep {w : World} {B n k : Nat} {A : Option Addr} {ds : List (Int × Int)} (h : DepsAt w B A n ds) (hk : k < n) :
    ∃ b o x y, A = some ⟨b, o, none⟩ ∧ b < B ∧ ds[k]? = some (x, y) ∧ w.cell? ⟨b, o + k * 2, none⟩ = some (.int .i64 x) ∧ w.cell? ⟨b, o + k * 2 + 1, none⟩ = some (.int .i64 y) := by
  obtain ⟨b, o, rfl, hb, hc⟩ := h.2.2 (by omega)
  have hz : ds[k]? = some (ds[k]'(by have := h.1; omega)) := List.getElem?_eq_getElem (by have := h.1; omega)
  obtain ⟨h1, h2⟩ := hc k _ hz
  exact ⟨b, o, _, _, rfl, hb, hz, h1, h2⟩
theorem deps_bound {w : World} {B n : Nat} {A : Option Addr} {ds : List (Int × Int)} (h : DepsAt w B A n ds) : n ≤ 9223372036854775807 := by have := h.2.1; unfold maxLen at this; omega
theorem DepsAt.keep {w w' : World} {B n : Nat} {A : Option Addr} {ds : List (Int × Int)} (h : DepsAt w B A n ds) (hk : ∀ p : Addr, p.block < B → w'.cell? p = w.cell? p) : DepsAt w' B A n ds :=
  ⟨h.1, h.2.1, fun hn => by
    obtain ⟨b, o, e, hb, hc⟩ := h.2.2 hn
    exact ⟨b, o, e, hb, fun i d hi => ⟨(hk ⟨b, _, none⟩ hb).trans (hc i d hi).1, (hk ⟨b, _, none⟩ hb).trans (hc i d hi).2⟩⟩⟩
theorem DepsAt.later {w W : World} {n : Nat} {A : Option Addr} {ds : List (Int × Int)} (h : DepsAt w w.heap.size A n ds) (hb : Below w.heap.size w W) : DepsAt W W.heap.size A n ds := by
  have h1 := h.keep (w' := W) fun _ hp => hb.cell hp
  exact ⟨h1.1, h1.2.1, fun hn => by
    obtain ⟨b, o, e, hb', hc⟩ := h1.2.2 hn
    exact ⟨b, o, e, Nat.lt_of_lt_of_le hb' hb.size, hc⟩⟩
theorem pair_eq {x y x' y' : Int} : ((x, y) = (x', y')) ↔ x = x' ∧ y = y' := by simp

set_option maxRecDepth 100000 in
theorem szDeps (A : Option Addr) (n c : Nat) (left : Int) (w : World) (h0 : 0 ≤ left) (h1 : left ≤ 1048576) (hn : n ≤ 9223372036854775807) :
    Calls Try.prog 24 #[.slice A n c, .int .i64 left] w fun e w' => e = .returned (.int .i64 (szV left n)) ∧ w = w' := by
  by_cases h : (n : Int) ≤ left
  · rw [szV_yes h]
    have g : decide (left - (n : Int) < 0) = false := by simp; omega
    go_enter Try.func24, Try.ntmps24
    go_wp2
    go_ret
    exact ⟨rfl, rfl⟩
  · rw [szV_no (by omega)]
    have g : decide (left - (n : Int) < 0) = true := by simp; omega
    go_enter Try.func24, Try.ntmps24
    go_wp2
    go_ret
    exact ⟨rfl, rfl⟩

set_option maxHeartbeats 800000 in
set_option maxRecDepth 100000 in
theorem specSame (A B : Option Addr) (n c m d : Nat) (xs ys : List (Int × Int)) (w : World) (hx : DepsAt w w.heap.size A n xs) (hy : DepsAt w w.heap.size B m ys) :
    Calls Try.prog 25 #[.slice A n c, .slice B m d] w (RetQuiet w (.bool (xs == ys))) := by
  have hn := deps_bound hx
  have hm := deps_bound hy
  have lx := hx.1
  have ly := hy.1
  by_cases hnm : n = m
  · subst hnm
    replace lx := hide lx
    replace ly := hide ly
    go_enter Try.func25, Try.ntmps25
    go_wp2_with fail
    go_loopw [5] (fun i wr => ∃ k q : Nat, k ≤ n ∧ i = .int .i64 (k : Int) ∧ xs.take k = ys.take k ∧ wr = w.drewN q) (fun i _ => n - (intOf i).toNat)
    case atStart => exact ⟨0, 0, Nat.zero_le _, rfl, by simp, rfl⟩
    case round =>
      obtain ⟨k, q, hk, rfl, ht, hwr⟩ := hrel
      by_cases hlt : k < n
      · obtain ⟨b, o, x1, x2, rfl, hbb, hx1, hc1, hc2⟩ := at_dep (show DepsAt wr w.heap.size A n xs by rw [hwr]; exact hx) hlt
        obtain ⟨b', o', y1, y2, rfl, hbb', hy1, hc3, hc4⟩ := at_dep (show DepsAt wr w.heap.size B n ys by rw [hwr]; exact hy) hlt
        replace hwr := hide hwr
        replace ht := hide ht
        replace hx1 := hide hx1
        replace hy1 := hide hy1
        clear hx hy
        by_cases hxy : x1 = y1 ∧ x2 = y2
        · obtain ⟨rfl, rfl⟩ := hxy
          go_wp2_with fail
          go_quiet (fail)
          go_wp2_with fail
          go_roundw
          case rel => exact ⟨k + 1, q + nq, by omega, by go_num, take_eq_succ ht.out hx1.out hy1.out, by rw [hwr.out, World.drewN_drewN]⟩
          case measure => simp [intOf]; omega
        · have e := hide (show (xs == ys) = false from beq_eq_false_iff_ne.2 (ne_of_at hx1.out hy1.out (by rw [Ne, pair_eq]; exact hxy)))
          by_cases h1 : x1 = y1
          · have h2 : (x2 == y2) = false := beq_eq_false_iff_ne.2 fun h => hxy ⟨h1, h⟩
            subst h1
            clear hxy
            go_wp2_with fail
            go_quiet (fail)
            go_wp2_with fail
            go_ret
            exact ⟨ret_bool e.out.symm, _, by rw [hwr.out, World.drewN_drewN]⟩
          · have h2 : (x1 == y1) = false := beq_eq_false_iff_ne.2 h1
            clear hxy h1
            go_wp2_with fail
            go_quiet (fail)
            go_wp2_with fail
            go_ret
            exact ⟨ret_bool e.out.symm, _, by rw [hwr.out, World.drewN_drewN]⟩
      · obtain rfl : k = n := by omega
        replace ht := hide ht
        replace hwr := hide hwr
        go_wp2_with fail
        go_ret
        exact ⟨ret_bool (by
          rw [eq_comm, beq_iff_eq]
          have := ht.out
          rwa [List.take_of_length_le (by rw [lx.out]; exact Nat.le_refl _), List.take_of_length_le (by rw [ly.out]; exact Nat.le_refl _)] at this), _, hwr.out⟩
  · have hq : ((n : Int) != (m : Int)) = true := by rw [bne_iff_ne]; omega
    have e : (xs == ys) = false := by rw [beq_eq_false_iff_ne]; rintro rfl; omega
    rw [e]
    clear e hnm lx ly
    go_enter Try.func25, Try.ntmps25
    go_wp2_with fail
    go_ret
    exact ⟨rfl, 0, rfl⟩
set_option maxHeartbeats 800000 in
set_option maxRecDepth 100000 in
theorem implSame (A B : Option Addr) (n c m d : Nat) (xs ys : List (Int × Int)) (w : World) (hx : DepsAt w w.heap.size A n xs) (hy : DepsAt w w.heap.size B m ys) :
    Calls Try.prog 27 #[.slice A n c, .slice B m d] w (RetQuiet w (.bool (xs == ys))) := by
  have hn := deps_bound hx
  have hm := deps_bound hy
  have lx := hx.1
  have ly := hy.1
  by_cases hnm : n = m
  · subst hnm
    replace lx := hide lx
    replace ly := hide ly
    go_enter Try.func27, Try.ntmps27
    go_wp2_with fail
    go_loopw [5, 13] (fun _ i wr => ∃ k q : Nat, k ≤ n ∧ i = .int .i64 (k : Int) ∧ xs.take k = ys.take k ∧ wr = w.drewN q) (fun _ i _ => n - (intOf i).toNat)
    case atStart => exact ⟨0, 0, Nat.zero_le _, rfl, by simp, rfl⟩
    case round =>
      obtain ⟨k, q, hk, rfl, ht, hwr⟩ := hrel
      by_cases hlt : k < n
      · obtain ⟨b, o, x1, x2, rfl, hbb, hx1, hc1, hc2⟩ := at_dep (show DepsAt wr w.heap.size A n xs by rw [hwr]; exact hx) hlt
        obtain ⟨b', o', y1, y2, rfl, hbb', hy1, hc3, hc4⟩ := at_dep (show DepsAt wr w.heap.size B n ys by rw [hwr]; exact hy) hlt
        replace hwr := hide hwr
        replace ht := hide ht
        replace hx1 := hide hx1
        replace hy1 := hide hy1
        clear hx hy
        by_cases hxy : x1 = y1 ∧ x2 = y2
        · obtain ⟨rfl, rfl⟩ := hxy
          go_wp2_with fail
          go_quiet (fail)
          go_wp2_with fail
          go_roundw
          case rel => exact ⟨k + 1, q + nq, by omega, by go_num, take_eq_succ ht.out hx1.out hy1.out, by rw [hwr.out, World.drewN_drewN]⟩
          case measure => simp [intOf]; omega
        · have e := hide (show (xs == ys) = false from beq_eq_false_iff_ne.2 (ne_of_at hx1.out hy1.out (by rw [Ne, pair_eq]; exact hxy)))
          by_cases h1 : x1 = y1
          · have h2 : (x2 == y2) = false := beq_eq_false_iff_ne.2 fun h => hxy ⟨h1, h⟩
            subst h1
            clear hxy
            go_wp2_with fail
            go_quiet (fail)
            go_wp2_with fail
            go_ret
            exact ⟨ret_bool e.out.symm, _, by rw [hwr.out, World.drewN_drewN]⟩
          · have h2 : (x1 == y1) = false := beq_eq_false_iff_ne.2 h1
            clear hxy h1
            go_wp2_with fail
            go_quiet (fail)
            go_wp2_with fail
            go_ret
            exact ⟨ret_bool e.out.symm, _, by rw [hwr.out, World.drewN_drewN]⟩
      · obtain rfl : k = n := by omega
        replace ht := hide ht
        replace hwr := hide hwr
        go_wp2_with fail
        go_ret
        exact ⟨ret_bool (by
          rw [eq_comm, beq_iff_eq]
          have := ht.out
          rwa [List.take_of_length_le (by rw [lx.out]; exact Nat.le_refl _), List.take_of_length_le (by rw [ly.out]; exact Nat.le_refl _)] at this), _, hwr.out⟩
  · have hq : ((n : Int) != (m : Int)) = true := by rw [bne_iff_ne]; omega
    have e : (xs == ys) = false := by rw [beq_eq_false_iff_ne]; rintro rfl; omega
    rw [e]
    clear e hnm lx ly
    go_enter Try.func27, Try.ntmps27
    go_wp2_with fail
    go_ret
    exact ⟨rfl, 0, rfl⟩

/-! ### The laws' helpers -/
set_option maxRecDepth 100000 in
theorem eqDep_any (x1 x2 y1 y2 : Int) (w : World) : Calls Try.prog 53 #[.agg #[.int .i64 x1, .int .i64 x2], .agg #[.int .i64 y1, .int .i64 y2]] w (RetVal w (.bool (((x1, x2) : Int × Int) == (y1, y2)))) := by
  by_cases h1 : x1 = y1
  · subst h1
    by_cases h2 : x2 = y2
    · subst h2
      have e := hide (beq_self_eq_true ((x1, x2) : Int × Int))
      go_enter Try.func53, Try.ntmps53
      go_wp2_with fail
      go_ret
      exact ⟨ret_bool e.out.symm, by go_grown⟩
    · have e := hide (show (((x1, x2) : Int × Int) == (x1, y2)) = false from beq_eq_false_iff_ne.2 (by rw [Ne, pair_eq]; exact fun h => h2 h.2))
      have g : (x2 != y2) = true := by rw [bne_iff_ne]; exact h2
      clear h2
      go_enter Try.func53, Try.ntmps53
      go_wp2_with fail
      go_ret
      exact ⟨ret_bool e.out.symm, by go_grown⟩
  · have e := hide (show (((x1, x2) : Int × Int) == (y1, y2)) = false from beq_eq_false_iff_ne.2 (by rw [Ne, pair_eq]; exact fun h => h1 h.1))
    have g : (x1 != y1) = true := by rw [bne_iff_ne]; exact h1
    clear h1
    go_enter Try.func53, Try.ntmps53
    go_wp2_with fail
    go_ret
    exact ⟨ret_bool e.out.symm, by go_grown⟩
end Go.Proofs.Ytgoggljmifjlfaa
