/-
  Walks of the laws' own helpers over lists of numbers: sizes, copies, comparisons, marks.
  Conditions: as each theorem says.
-/
import Derived.Test.YtooiobcghobefaaWords
import Derived.Test.YtooiobcghobefaaOpen
namespace Go.Proofs.Ytooiobcghobefaa
open Go.RowKit
set_option linter.unusedVariables false

theorem elemI : Elem Try.prog 35 3 (.int .i64 0) 8 := ⟨Try.underlying35, by kernel_rfl, rfl, by decide⟩

theorem take_eq_succ {α : Type} {xs ys : List α} {k : Nat} {x : α} (h : xs.take k = ys.take k) (hx : xs[k]? = some x) (hy : ys[k]? = some x) : xs.take (k + 1) = ys.take (k + 1) := by
  rw [List.take_add_one, List.take_add_one, h, hx, hy]
theorem ne_of_at {α : Type} {xs ys : List α} {k : Nat} {x y : α} (hx : xs[k]? = some x) (hy : ys[k]? = some y) (h : x ≠ y) : xs ≠ ys := by
  rintro rfl; rw [hx] at hy; exact h (Option.some.inj hy)

/-- What is left of a budget, or -1. -/
def szV (left tot : Int) : Int := if tot ≤ left then left - tot else -1
theorem szV_yes {left tot : Int} (h : tot ≤ left) : szV left tot = left - tot := if_pos h
theorem szV_left {left : Int} {tot : Nat} (h : (tot : Int) ≤ left) : ∃ L : Nat, szV left (tot : Int) = (L : Int) ∧ (L : Int) ≤ left - tot ∧ left - tot ≤ (L : Int) := ⟨(left - tot).toNat, by rw [szV_yes h]; omega, by omega, by omega⟩
theorem szV_no {left tot : Int} (h : left < tot) : szV left tot = -1 := if_neg (by omega)

theorem szInts (A : Option Addr) (n c : Nat) (left : Int) (w : World) (h0 : 0 ≤ left) (h1 : left ≤ 1048576) (hn : n ≤ 9223372036854775807) :
    Calls Try.prog 27 #[.slice A n c, .int .i64 left] w fun e w' => e = .returned (.int .i64 (szV left n)) ∧ w = w' := by
  by_cases h : (n : Int) ≤ left
  · rw [szV_yes h]
    have g : decide (left - (n : Int) < 0) = false := by simp; omega
    go_enter Try.func27, Try.ntmps27
    go_wp2
    go_ret
    exact ⟨rfl, rfl⟩
  · rw [szV_no (by omega)]
    have g : decide (left - (n : Int) < 0) = true := by simp; omega
    go_enter Try.func27, Try.ntmps27
    go_wp2
    go_ret
    exact ⟨rfl, rfl⟩

/-- A value, the memory as it was; the order of some operations was drawn. -/
def RetQuiet (w : World) (v : Value) (e : Ending) (w' : World) : Prop := e = .returned v ∧ ∃ m, w' = w.drewN m
theorem RetQuiet.below {w : World} {v : Value} {e : Ending} {w' : World} (h : RetQuiet w v e w') : RetVal w v e w' := by
  obtain ⟨h1, m, rfl⟩ := h
  exact ⟨h1, below_drewN (Below.refl _ _) m⟩
theorem below_of_drewN (w : World) (m : Nat) : Below w.heap.size w (w.drewN m) := below_drewN (Below.refl _ _) m
theorem Reads.drewN' {w : World} {B n m : Nat} {A : Option Addr} {xs : List Value} (h : Reads w B A n xs) : Reads (w.drewN m) B A n xs := h

set_option maxHeartbeats 800000 in
set_option maxRecDepth 100000 in
theorem eqIntsQ (A B : Option Addr) (n c m d : Nat) (xs ys : List Int) (w : World) (hx : Reads w w.heap.size A n (xs.map (Value.int .i64))) (hy : Reads w w.heap.size B m (ys.map (Value.int .i64))) :
    Calls Try.prog 40 #[.slice A n c, .slice B m d] w (RetQuiet w (.bool (xs == ys))) := by
  have hn := hx.bound
  have hm := hy.bound
  have lx := ints_len hx
  have ly := ints_len hy
  by_cases hnm : n = m
  · subst hnm
    replace lx := hide lx
    replace ly := hide ly
    go_enter Try.func40, Try.ntmps40
    go_wp2_with fail
    go_loopw [5] (fun i wr => ∃ k q : Nat, k ≤ n ∧ i = .int .i64 (k : Int) ∧ xs.take k = ys.take k ∧ wr = w.drewN q) (fun i _ => n - (intOf i).toNat)
    case atStart => exact ⟨0, 0, Nat.zero_le _, rfl, by simp, rfl⟩
    case round =>
      obtain ⟨k, q, hk, rfl, ht, hwr⟩ := hrel
      by_cases hlt : k < n
      · obtain ⟨b, o, x, rfl, hbb, hx1, hc1⟩ := at_int (show Reads wr w.heap.size A n (xs.map (Value.int .i64)) by rw [hwr]; exact hx) hlt
        obtain ⟨b', o', y, rfl, hbb', hy1, hc2⟩ := at_int (show Reads wr w.heap.size B n (ys.map (Value.int .i64)) by rw [hwr]; exact hy) hlt
        replace hwr := hide hwr
        replace ht := hide ht
        replace hx1 := hide hx1
        replace hy1 := hide hy1
        by_cases hxy : x = y
        · subst hxy
          go_wp2_with fail
          go_quiet (fail)
          go_wp2_with fail
          go_roundw
          case rel => exact ⟨k + 1, q + nq, by omega, by go_num, take_eq_succ ht.out hx1.out hy1.out, by rw [hwr.out, World.drewN_drewN]⟩
          case measure => simp [intOf]; omega
        · have hq : (x != y) = true := by rw [bne_iff_ne]; exact hxy
          replace hxy := hide hxy
          go_wp2_with fail
          go_quiet (fail)
          go_wp2_with fail
          go_ret
          exact ⟨ret_bool (by rw [eq_comm, beq_eq_false_iff_ne]; exact ne_of_at hx1.out hy1.out hxy.out), _, by rw [hwr.out, World.drewN_drewN]⟩
      · obtain rfl : k = n := by omega
        replace ht := hide ht
        replace hwr := hide hwr
        go_wp2_with fail
        go_ret
        exact ⟨ret_bool (by
          rw [eq_comm, beq_iff_eq]
          have := ht.out
          rwa [List.take_of_length_le (by rw [lx.out]; exact Nat.le_refl _), List.take_of_length_le (by rw [ly.out]; exact Nat.le_refl _)] at this), _, hwr.out⟩
  · have hq : ((n : Int) != (m : Int)) = true := by rw [bne_iff_ne]; omega
    have e : (xs == ys) = false := by rw [beq_eq_false_iff_ne]; rintro rfl; omega
    rw [e]
    clear e hnm lx ly
    go_enter Try.func40, Try.ntmps40
    go_wp2_with fail
    go_ret
    exact ⟨rfl, 0, rfl⟩
theorem eqInts (A B : Option Addr) (n c m d : Nat) (xs ys : List Int) (w : World) (hx : Reads w w.heap.size A n (xs.map (Value.int .i64))) (hy : Reads w w.heap.size B m (ys.map (Value.int .i64))) :
    Calls Try.prog 40 #[.slice A n c, .slice B m d] w (RetVal w (.bool (xs == ys))) := (eqIntsQ A B n c m d xs ys w hx hy).mono fun _ _ h => h.below
set_option maxHeartbeats 800000 in
set_option maxRecDepth 100000 in
/-- A copy of a list of numbers. -/
theorem toInts (A : Option Addr) (n c : Nat) (xs : List Int) (w : World) (hx : Reads w w.heap.size A n (xs.map (Value.int .i64))) (hb0 : n ≤ 1048576) :
    Calls Try.prog 33 #[.slice A n c] w (RetRow 3 w (xs.map (Value.int .i64))) := by
  have lx := hide (ints_len hx)
  obtain ⟨i, hi, hz, hz1, hz2⟩ := info_parts elemI.info
  go_enter Try.func33, Try.ntmps33
  go_wp2_with (at_make; refine wpList_make_full _ rfl _ _ 35 rfl w.heap.size 3 i (.int .i64 0) 1 Try.underlying35 hi hz hz1 .i64 .i64 _ _ n rfl rfl rfl rfl (by rw [hz2]; omega) (by unfold maxLen; omega) (Nat.le_refl _) ?_; intro w1 hown hg)
  have hb : Below w.heap.size w w1 := (Below.refl _ _).grown hg (Nat.le_refl _) (by intro k hk; cases hk)
  have e : (madeCells (Value.int .i64 0).cells (n * 1)).toList = (xs.take 0).map (Value.int .i64) ++ List.replicate n (.int .i64 0) := by
    show (madeCells #[Value.int .i64 0] (n * 1)).toList = _
    rw [toList_madeCells_one]; simp
  rw [e] at hown
  clear hi hz hz1 hz2 hg e
  go_loopw [4] (fun i wr => ∃ k r : Nat, k + r = n ∧ i = .int .i64 (k : Int) ∧ wr.ownsRow w.heap.size 3 1 (.slice (some ⟨w.heap.size, 0, none⟩) n n) n ((xs.take k).map (Value.int .i64) ++ List.replicate r (.int .i64 0)) ∧ Below w.heap.size w wr) (fun i _ => n - (intOf i).toNat)
  case atStart => exact ⟨0, n, by omega, rfl, hown, hb⟩
  case round =>
    obtain ⟨k, r, hkr, rfl, hown, hb⟩ := hrel
    have hk1 : k ≤ n := by omega
    by_cases hlt : k < n
    · obtain ⟨r, rfl⟩ : ∃ q, r = q + 1 := ⟨r - 1, by omega⟩
      replace hkr := hide hkr
      obtain ⟨b, o, x, rfl, hbb, hx1, hc1⟩ := at_int (hx.below hb) hlt
      replace hx1 := hide hx1
      obtain ⟨v, hcell⟩ := cell_own hown hlt
      have hfz := hown.frozenAt k
      go_wp2
      have hst := hown.stored k (.int .i64 x)
      rw [set_fill _ k r _ _ (by rw [List.length_map, List.length_take, lx.out]; omega), ← map_take_succ hx1.out] at hst
      go_roundw
      case rel => exact ⟨k + 1, r, by have := hkr.out; omega, by go_num, hst.1, hb.setCell (Nat.le_refl _) _⟩
      case measure => simp [intOf]; omega
    · obtain rfl : r = 0 := by omega
      obtain rfl : k = n := by omega
      clear hkr
      rw [List.take_of_length_le (by rw [lx.out]; exact Nat.le_refl _), List.replicate_zero, List.append_nil] at hown
      go_wp2
      go_ret
      exact ⟨_, _, _, rfl, hown, hb⟩
set_option maxHeartbeats 800000 in
set_option maxRecDepth 100000 in
/-- Marks written into a list that a call owns. -/
theorem markInts (B : Nat) (A : Option Addr) (n c : Nat) (xs : List Value) (m : Nat) (w : World) (hown : w.ownsRow B 3 1 (.slice A n c) n xs) (hm : m + n ≤ 4000000000) :
    Calls Try.prog 41 #[.slice A n c, .int .i64 (m : Int)] w fun e w' => e = .returned (.int .i64 ((m + n : Nat) : Int)) ∧ w'.ownsRow B 3 1 (.slice A n c) n ((List.range n).map fun i => .int .i64 ((m + i : Nat) : Int)) ∧ w.grownBy w' (Value.slice A n c).ownBlock := by
  have lx : xs.length = n := by have := hown.1; omega
  have hgr : ∀ k, (List.range k).map (fun i => Value.int .i64 ((m + i : Nat) : Int)) ++ [Value.int .i64 ((m + k : Nat) : Int)] = (List.range (k + 1)).map fun i => Value.int .i64 ((m + i : Nat) : Int) := by
    intro k; rw [List.range_succ, List.map_append]; rfl
  replace hgr := hide hgr
  replace lx := hide lx
  go_enter Try.func41, Try.ntmps41
  go_wp2_with fail
  go_loopw [1, 5] (fun mm i wr => ∃ k : Nat, k ≤ n ∧ i = .int .i64 (k : Int) ∧ mm = .int .i64 ((m + k : Nat) : Int) ∧ wr.ownsRow B 3 1 (.slice A n c) n (((List.range k).map fun i => .int .i64 ((m + i : Nat) : Int)) ++ xs.drop k) ∧ w.grownBy wr (Value.slice A n c).ownBlock) (fun _ i _ => n - (intOf i).toNat)
  case atStart => exact ⟨0, by omega, rfl, rfl, by simpa using hown, World.grownBy.refl w _⟩
  case round =>
    obtain ⟨k, hk, rfl, rfl, hown', hg⟩ := hrel
    by_cases hlt : k < n
    · obtain ⟨g, rfl⟩ : ∃ g, A = some ⟨g, 0, none⟩ := by
        rcases hown'.2 with ⟨h, h0⟩ | ⟨g, _, _, h, _⟩
        · omega
        · injection h with h; exact ⟨g, h⟩
      obtain ⟨v, hcell⟩ := cell_own hown' hlt
      have hfz := hown'.frozenAt k
      go_wp2
      have hst := hown'.stored k (.int .i64 ((m + k : Nat) : Int))
      have e : (((List.range k).map fun i => Value.int .i64 ((m + i : Nat) : Int)) ++ xs.drop k).set k (.int .i64 ((m + k : Nat) : Int)) = ((List.range (k + 1)).map fun i => Value.int .i64 ((m + i : Nat) : Int)) ++ xs.drop (k + 1) := by
        rw [List.set_append_right _ _ (by simp), List.length_map, List.length_range, Nat.sub_self, List.drop_eq_getElem_cons (by rw [lx.out]; exact hlt), List.set_cons_zero, ← hgr.out k, List.append_assoc]
        rfl
      rw [e] at hst
      clear e
      go_roundw
      case rel => exact ⟨k + 1, by omega, by go_num, by go_num, hst.1, World.grownBy.trans hg hst.2⟩
      case measure => simp [intOf]; omega
    · obtain rfl : k = n := by omega
      rw [List.drop_of_length_le (by rw [lx.out]; exact Nat.le_refl _), List.append_nil] at hown'
      go_wp2
      go_ret
      exact ⟨rfl, hown', hg⟩
set_option maxHeartbeats 800000 in
set_option maxRecDepth 100000 in
/-- Marks found again. -/
theorem heldInts (A : Option Addr) (n c : Nat) (m : Nat) (w : World) (hx : Reads w w.heap.size A n ((List.range n).map fun i => .int .i64 ((m + i : Nat) : Int))) (hm : m + n ≤ 4000000000) :
    Calls Try.prog 42 #[.slice A n c, .int .i64 (m : Int)] w fun e w' => e = .returned (.int .i64 ((m + n : Nat) : Int)) ∧ w = w' := by
  go_enter Try.func42, Try.ntmps42
  go_wp2_with fail
  go_loop [1, 5] (fun mm i => ∃ k q : Nat, k ≤ n ∧ i = .int .i64 (k : Int) ∧ mm = .int .i64 (q : Int) ∧ q = m + k) (fun _ i => n - (intOf i).toNat)
  case atStart => exact ⟨0, m, by omega, rfl, rfl, rfl⟩
  case round =>
    obtain ⟨k, q, hk, rfl, rfl, hq⟩ := hrel
    by_cases hlt : k < n
    · obtain ⟨b, o, u, rfl, hbb, hx1, hc1⟩ := hx.at_ hlt
      rw [List.getElem?_map, List.getElem?_range hlt, Option.map_some] at hx1
      simp only [Option.some.injEq] at hx1
      subst hx1
      rw [← hq] at hc1
      replace hq := hide hq
      have hqb : q ≤ 4000000000 := by rw [hq.out]; omega
      go_wp2
      go_round
      case rel => exact ⟨k + 1, q + 1, by omega, by go_num, by go_num, by have := hq.out; omega⟩
      case measure => simp [intOf]; omega
    · obtain rfl : k = n := by omega
      replace hq := hide hq
      go_wp2
      go_ret
      exact ⟨ret_int (a := (q : Int)) (by have := hq.out; omega), rfl⟩

theorem markInts1 (B : Nat) (A : Option Addr) (n c : Nat) (xs : List Value) (w : World) (hown : w.ownsRow B 3 1 (.slice A n c) n xs) (hm : n ≤ 3000000000) :
    Calls Try.prog 41 #[.slice A n c, .int .i64 1] w fun e w' => e = .returned (.int .i64 (1 + (n : Int))) ∧ w'.ownsRow B 3 1 (.slice A n c) n ((List.range n).map fun i => .int .i64 ((1 + i : Nat) : Int)) ∧ w.grownBy w' (Value.slice A n c).ownBlock := by
  have h := markInts B A n c xs 1 w hown (by omega)
  rw [show ((1 : Nat) : Int) = 1 from rfl, show ((1 + n : Nat) : Int) = 1 + (n : Int) by omega] at h
  exact h
theorem heldInts1 (A : Option Addr) (n c : Nat) (w : World) (hx : Reads w w.heap.size A n ((List.range n).map fun i => .int .i64 ((1 + i : Nat) : Int))) (hm : n ≤ 3000000000) :
    Calls Try.prog 42 #[.slice A n c, .int .i64 1] w fun e w' => e = .returned (.int .i64 (1 + (n : Int))) ∧ w = w' := by
  have h := heldInts A n c 1 w hx (by omega)
  rw [show ((1 : Nat) : Int) = 1 from rfl, show ((1 + n : Nat) : Int) = 1 + (n : Int) by omega] at h
  exact h

/-! ### Lists of lists -/
theorem at_row {w : World} {B n k : Nat} {A : Option Addr} {zss : List (List Int)} (h : RowsAt w B A n zss) (hk : k < n) :
    ∃ b o zs A' c', A = some ⟨b, o, none⟩ ∧ b < B ∧ zss[k]? = some zs ∧ w.cell? ⟨b, o + k, none⟩ = some (.slice A' zs.length c') ∧ Reads w B A' zs.length (zs.map (Value.int .i64)) := by
  obtain ⟨h1, vs, h2, h3⟩ := h
  obtain ⟨b, o, u, rfl, hb, hu, hc⟩ := h2.at_ hk
  have hz : zss[k]? = some (zss[k]'(by omega)) := List.getElem?_eq_getElem (by omega)
  obtain ⟨A', c', h4, h5⟩ := h3 k _ hz
  rw [hu] at h4
  simp only [Option.some.injEq] at h4
  subst h4
  exact ⟨b, o, _, A', c', rfl, hb, hz, hc, h5⟩
theorem rows_bound {w : World} {B n : Nat} {A : Option Addr} {zss : List (List Int)} (h : RowsAt w B A n zss) : n ≤ 9223372036854775807 := by
  obtain ⟨_, vs, h2, _⟩ := h
  exact h2.bound
/-- How many values a list of lists holds, the lists counted too. -/
def lens (zss : List (List Int)) : Nat := (zss.map List.length).sum
theorem lens_take_succ {zss : List (List Int)} {k : Nat} {zs : List Int} (h : zss[k]? = some zs) : lens (zss.take (k + 1)) = lens (zss.take k) + zs.length := by
  unfold lens
  rw [List.take_add_one, h]; simp
theorem lens_take_le (zss : List (List Int)) (k : Nat) : lens (zss.take k) ≤ lens zss := by
  have : lens zss = lens (zss.take k) + lens (zss.drop k) := by
    simp only [lens]
    rw [← List.sum_append, ← List.map_append, List.take_append_drop]
  omega

set_option maxHeartbeats 800000 in
set_option maxRecDepth 100000 in
theorem szRows (A : Option Addr) (n c : Nat) (zss : List (List Int)) (left : Int) (w : World) (h : RowsAt w w.heap.size A n zss) (h0 : 0 ≤ left) (h1 : left ≤ 1048576) :
    Calls Try.prog 11 #[.slice A n c, .int .i64 left] w fun e w' => e = .returned (.int .i64 (szV left ((n + lens zss : Nat) : Int))) ∧ w = w' := by
  have hn := rows_bound h
  have hzl := hide h.1
  by_cases hbig : left < n
  · rw [szV_no (by omega)]
    have g : decide (left - (n : Int) < 0) = true := by simp; omega
    clear hzl
    go_enter Try.func11, Try.ntmps11
    go_wp2_with fail
    go_ret
    exact ⟨rfl, rfl⟩
  · have g : decide (left - (n : Int) < 0) = false := by simp; omega
    obtain ⟨l0, hl0⟩ : ∃ l0 : Nat, left = n + l0 := ⟨(left - n).toNat, by omega⟩
    have hl1 : l0 ≤ 1048576 := by omega
    have hl0' := hide hl0
    have gg : left - (n : Int) = (l0 : Int) := by omega
    clear hl0
    go_enter Try.func11, Try.ntmps11
    go_wp2_with fail
    go_loop [1, 5] (fun l i => ∃ (k q : Nat), k ≤ n ∧ i = .int .i64 (k : Int) ∧ l = .int .i64 (q : Int) ∧ q + lens (zss.take k) = l0) (fun _ i => n - (intOf i).toNat)
    case atStart => exact ⟨0, l0, by omega, rfl, rfl, by simp [lens]⟩
    case round =>
      obtain ⟨k, q, hk, rfl, rfl, hq⟩ := hrel
      have hqb : q ≤ 1048576 := by omega
      clear gg g
      by_cases hlt : k < n
      · obtain ⟨b, o, zs, A', c', rfl, hbb, hz1, hc1, hr⟩ := at_row h hlt
        have hzb := hr.bound
        have hls := lens_take_succ hz1
        have hle := lens_take_le zss (k + 1)
        clear hr h
        by_cases hbz : (q : Int) < zs.length
        · have e := hide (szV_no hbz)
          have e2 : szV left ((n + lens zss : Nat) : Int) = -1 := szV_no (by have := hl0'.out; omega)
          replace hls := hide hls
          replace hle := hide hle
          replace hq := hide hq
          replace hz1 := hide hz1
          replace e2 := hide e2
          go_wp2_with (go_at_call 27; refine (szInts _ _ _ _ _ (by omega) (by omega) hzb).mono ?_; rintro e w' ⟨rfl, rfl⟩; rw [e.out])
          go_ret
          exact ⟨ret_int e2.out.symm, rfl⟩
        · have e := hide (szV_yes (left := (q : Int)) (tot := (zs.length : Int)) (by omega))
          obtain ⟨q', hq'⟩ : ∃ q' : Nat, (q : Int) - zs.length = (q' : Int) := ⟨q - zs.length, by omega⟩
          have hq2 : q' + lens (zss.take (k + 1)) = l0 := by omega
          rw [hq'] at e
          replace hq2 := hide hq2
          clear hls hle hq hz1 hq'
          go_wp2_with (go_at_call 27; refine (szInts _ _ _ _ _ (by omega) (by omega) hzb).mono ?_; rintro e w' ⟨rfl, rfl⟩; rw [e.out])
          go_round
          case rel => exact ⟨k + 1, q', by omega, by go_num, rfl, hq2.out⟩
          case measure => simp [intOf]; omega
      · obtain rfl : k = n := by omega
        rw [List.take_of_length_le (by rw [hzl.out]; exact Nat.le_refl _)] at hq
        have e2 : szV left ((k + lens zss : Nat) : Int) = (q : Int) := by rw [szV_yes (by have := hl0'.out; omega)]; have := hl0'.out; omega
        replace e2 := hide e2
        clear hq
        go_wp2_with fail
        go_ret
        exact ⟨ret_int e2.out.symm, rfl⟩
end Go.Proofs.Ytooiobcghobefaa
