/-
  The helpers of the law FnAgrees.
  Conditions: as each theorem says.
-/
import Derived.Test.YtkcckfpihpfbnaaAgrP
import Derived.Test.YtkcckfpihpfbnaaEq
namespace Go.Proofs.Ytkcckfpihpfbnaa
open Go.RowKit
set_option linter.unusedVariables false

set_option maxRecDepth 100000 in
theorem lawBigA (A : Option Addr) (n c : Nat) (b : Bool) (w : World) (hb : decide ((1048576 : Int) < (n : Int)) = b) : Calls Try.prog 15 #[.slice A n c] w fun e w' => e = .returned (.bool b) ∧ w = w' := by
  replace hb := hide hb
  go_enter Try.func15, Try.ntmps15
  go_wp2_with fail
  go_ret
  exact ⟨ret_bool hb.out, rfl⟩
set_option maxHeartbeats 800000 in
set_option maxRecDepth 100000 in
theorem lawSame (A B : Option Addr) (n c m d : Nat) (xs ys : List Int) (w : World) (hx : Reads w w.heap.size A n (xs.map (Value.int .i64))) (hy : Reads w w.heap.size B m (ys.map (Value.int .i64))) :
    Calls Try.prog 19 #[.slice A n c, .slice B m d] w (RetQuiet w (.bool (xs == ys))) := by
  have hn := hx.bound
  have hm := hy.bound
  have lx := ints_len hx
  have ly := ints_len hy
  by_cases hnm : n = m
  · subst hnm
    replace lx := hide lx
    replace ly := hide ly
    go_enter Try.func19, Try.ntmps19
    go_wp2_with fail
    go_loopw [5] (fun i wr => ∃ k q : Nat, k ≤ n ∧ i = .int .i64 (k : Int) ∧ xs.take k = ys.take k ∧ wr = w.drewN q) (fun i _ => n - (intOf i).toNat)
    case atStart => exact ⟨0, 0, Nat.zero_le _, rfl, by simp, rfl⟩
    case round =>
      obtain ⟨k, q, hk, rfl, ht, hwr⟩ := hrel
      by_cases hlt : k < n
      · obtain ⟨b, o, x, rfl, hbb, hx1, hc1⟩ := at_int (show Reads wr w.heap.size A n (xs.map (Value.int .i64)) by rw [hwr]; exact hx) hlt
        obtain ⟨b', o', y, rfl, hbb', hy1, hc2⟩ := at_int (show Reads wr w.heap.size B n (ys.map (Value.int .i64)) by rw [hwr]; exact hy) hlt
        replace hwr := hide hwr
        replace ht := hide ht
        replace hx1 := hide hx1
        replace hy1 := hide hy1
        by_cases hxy : x = y
        · subst hxy
          go_wp2_with fail
          go_quiet (fail)
          go_wp2_with fail
          go_roundw
          case rel => exact ⟨k + 1, q + nq, by omega, by go_num, take_eq_succ ht.out hx1.out hy1.out, by rw [hwr.out, World.drewN_drewN]⟩
          case measure => simp [intOf]; omega
        · have hq : (x != y) = true := by rw [bne_iff_ne]; exact hxy
          replace hxy := hide hxy
          go_wp2_with fail
          go_quiet (fail)
          go_wp2_with fail
          go_ret
          exact ⟨ret_bool (by rw [eq_comm, beq_eq_false_iff_ne]; exact ne_of_at hx1.out hy1.out hxy.out), _, by rw [hwr.out, World.drewN_drewN]⟩
      · obtain rfl : k = n := by omega
        replace ht := hide ht
        replace hwr := hide hwr
        go_wp2_with fail
        go_ret
        exact ⟨ret_bool (by
          rw [eq_comm, beq_iff_eq]
          have := ht.out
          rwa [List.take_of_length_le (by rw [lx.out]; exact Nat.le_refl _), List.take_of_length_le (by rw [ly.out]; exact Nat.le_refl _)] at this), _, hwr.out⟩
  · have hq : ((n : Int) != (m : Int)) = true := by rw [bne_iff_ne]; omega
    have e : (xs == ys) = false := by rw [beq_eq_false_iff_ne]; rintro rfl; omega
    rw [e]
    clear e hnm lx ly
    go_enter Try.func19, Try.ntmps19
    go_wp2_with fail
    go_ret
    exact ⟨rfl, 0, rfl⟩
/-- Two lists alike. -/
theorem lawSame1 (A B : Option Addr) (n c m d : Nat) (xs : List Int) (w : World) (hx : Reads w w.heap.size A n (xs.map (Value.int .i64))) (hy : Reads w w.heap.size B m (xs.map (Value.int .i64))) :
    Calls Try.prog 19 #[.slice A n c, .slice B m d] w (RetVal w (.bool true)) := by
  refine (lawSame A B n c m d xs xs w hx hy).mono ?_
  rintro e w' ⟨rfl, q, rfl⟩
  exact ⟨ret_bool (by simp), below_drewN (Below.refl _ _) _⟩
set_option maxRecDepth 100000 in
theorem lawHas (A : Option Addr) (n c : Nat) (xs : List Int) (x : Int) (w : World) (h : Reads w w.heap.size A n (xs.map (Value.int .i64))) (hm : x ∈ xs) :
    Calls Try.prog 23 #[.slice A n c, .int .i64 x] w fun e w' => e = .returned (.bool true) ∧ w = w' := by
  have hn := h.bound
  have lx := ints_len h
  replace lx := hide lx
  replace hm := hide hm
  go_enter Try.func23, Try.ntmps23
  go_wp2_with fail
  go_loopw [5] (fun i wr => ∃ k : Nat, k ≤ n ∧ i = .int .i64 (k : Int) ∧ (∀ y ∈ xs.take k, y ≠ x) ∧ w = wr) (fun i _ => n - (intOf i).toNat)
  case atStart => exact ⟨0, Nat.zero_le _, rfl, (by intro y hy; simp at hy), rfl⟩
  case round =>
    obtain ⟨k, hk, rfl, ht, rfl⟩ := hrel
    by_cases hlt : k < n
    · obtain ⟨b, o, y, rfl, hbb, hy1, hc1⟩ := at_int h hlt
      replace ht := hide ht
      replace hy1 := hide hy1
      replace h := hide h
      by_cases hxy : y = x
      · have hq : (y == x) = true := by rw [beq_iff_eq]; exact hxy
        replace hxy := hide hxy
        go_wp2_with fail
        go_ret
        exact ⟨rfl, rfl⟩
      · have hq : (y == x) = false := by rw [beq_eq_false_iff_ne]; exact hxy
        replace hxy := hide hxy
        go_wp2_with fail
        go_roundw
        case rel => exact ⟨k + 1, by omega, by go_num, (by intro z hz; rw [List.take_add_one, hy1.out] at hz; rcases List.mem_append.1 hz with e | e; exact ht.out z e; simp at e; rw [e]; exact hxy.out), trivial⟩
        case measure => simp [intOf]; omega
    · exfalso
      obtain rfl : k = n := by omega
      have h2 := hm.out
      rw [List.take_of_length_le (by rw [lx.out]; exact Nat.le_refl _)] at ht
      exact ht x h2 rfl
theorem keepT {w0 wc wn : World} {b o1 o2 : Nat} {x y : Value} (h1 : Below w0.heap.size w0 wc) (h2 : wc.cell? ⟨b, o1, none⟩ = some x) (h3 : wc.cell? ⟨b, o2, none⟩ = some y) (hb : b < w0.heap.size) (hn : Below wc.heap.size wc wn) :
    Below w0.heap.size w0 wn ∧ wn.cell? ⟨b, o1, none⟩ = some x ∧ wn.cell? ⟨b, o2, none⟩ = some y :=
  ⟨below_call h1 hn, cell_below hn h2 (Nat.lt_of_lt_of_le hb h1.size), cell_below hn h3 (Nat.lt_of_lt_of_le hb h1.size)⟩
end Go.Proofs.Ytkcckfpihpfbnaa
