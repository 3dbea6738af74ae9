/-
  Lists of sets: the tests that all are valid; which stay as greatest or least.
  Conditions: as each theorem says.
-/
import Derived.Test.YtkcckfpihpfbnaaPut
import Derived.Test.YtkcckfpihpfbnaaDist
import Derived.Test.YtkcckfpihpfbnaaAttr
namespace Go.Proofs.Ytkcckfpihpfbnaa
open Go.RowKit
set_option linter.unusedVariables false

def setsB (zs : List Int) : Bool := zs.all validB && decide (zs.length ≤ 100)
theorem setsB_no {zs : List Int} {k : Nat} {x : Int} (h : zs[k]? = some x) (hx : validB x = false) : setsB zs = false := by
  have : zs.all validB = false := by
    rw [Bool.eq_false_iff]
    intro ha
    have := List.all_eq_true.1 ha x (List.mem_of_getElem? h)
    rw [hx] at this; cases this
  unfold setsB; rw [this]; rfl
theorem setsB_le {zs : List Int} (h : setsB zs = true) : zs.length ≤ 100 ∧ ∀ x ∈ zs, 0 ≤ x ∧ x ≤ 31 := by
  unfold setsB at h
  rw [Bool.and_eq_true, decide_eq_true_eq] at h
  exact ⟨h.2, fun x hx => (validB_iff x).1 (List.all_eq_true.1 h.1 x hx)⟩
set_option maxHeartbeats 800000 in
set_option maxRecDepth 100000 in
theorem l4sets (A : Option Addr) (n c : Nat) (zs : List Int) (w : World) (h : Reads w w.heap.size A n (zs.map (Value.int .i64))) :
    Calls Try.prog 89 #[.slice A n c] w fun e w' => e = .returned (.bool (setsB zs)) ∧ w = w' := by
  have hn := h.bound
  have lx := hide (ints_len h)
  go_enter Try.func89, Try.ntmps89
  go_wp2_with fail
  go_loopw [3] (fun i wr => ∃ k : Nat, k ≤ n ∧ i = .int .i64 (k : Int) ∧ w = wr ∧ ((zs.take k).all validB) = true) (fun i _ => n - (intOf i).toNat)
  case atStart => exact ⟨0, by omega, rfl, rfl, by simp⟩
  case round =>
    obtain ⟨k, hk, rfl, rfl, hall⟩ := hrel
    by_cases hlt : k < n
    · obtain ⟨b, o, x, rfl, hbb, hx, hc⟩ := at_int h hlt
      rcases hv : validB x with _ | _
      · have e := hide (setsB_no hx hv)
        replace hall := hide hall
        replace hx := hide hx
        replace hv := hide hv
        replace h := hide h
        go_wp2_with (go_at_call 110; refine (l2valid _ _).mono ?_; rintro e w' ⟨rfl, rfl⟩; rw [hv.out])
        go_ret
        exact ⟨ret_bool e.out.symm, rfl⟩
      · have hnext := hide (show ((zs.take (k + 1)).all validB) = true by rw [List.take_add_one, hx, List.all_append, hall]; simp [hv])
        replace hall := hide hall
        replace hx := hide hx
        replace hv := hide hv
        replace h := hide h
        go_wp2_with (go_at_call 110; refine (l2valid _ _).mono ?_; rintro e w' ⟨rfl, rfl⟩; rw [hv.out])
        go_roundw
        case rel => exact ⟨k + 1, by omega, by go_num, trivial, hnext.out⟩
        case measure => simp [intOf]; omega
    · obtain rfl : k = n := by omega
      have e : setsB zs = decide ((k : Int) ≤ 100) := by
        have hk' := lx.out
        rw [← hk', List.take_length] at hall
        unfold setsB
        rw [hall, Bool.true_and, hk']
        by_cases h1 : k ≤ 100
        · rw [decide_eq_true h1, decide_eq_true (by omega)]
        · rw [decide_eq_false h1, decide_eq_false (by omega)]
      replace e := hide e
      replace hall := hide hall
      go_wp2_with fail
      go_ret
      exact ⟨ret_bool (by rw [e.out]), rfl⟩
set_option maxHeartbeats 800000 in
set_option maxRecDepth 100000 in
theorem aresets (A : Option Addr) (n c : Nat) (zs : List Int) (w : World) (h : Reads w w.heap.size A n (zs.map (Value.int .i64))) :
    Calls Try.prog 87 #[.slice A n c] w fun e w' => e = .returned (.bool (setsB zs)) ∧ w = w' := by
  have hn := h.bound
  have lx := hide (ints_len h)
  go_enter Try.func87, Try.ntmps87
  go_wp2_with fail
  go_loopw [4, 7] (fun _ i wr => ∃ k : Nat, k ≤ n ∧ i = .int .i64 (k : Int) ∧ w = wr ∧ ((zs.take k).all validB) = true) (fun _ i _ => n - (intOf i).toNat)
  case atStart => exact ⟨0, by omega, rfl, rfl, by simp⟩
  case round =>
    obtain ⟨k, hk, rfl, rfl, hall⟩ := hrel
    by_cases hlt : k < n
    · obtain ⟨b, o, x, rfl, hbb, hx, hc⟩ := at_int h hlt
      rcases hv : validB x with _ | _
      · have e := hide (setsB_no hx hv)
        replace hall := hide hall
        replace hx := hide hx
        replace hv := hide hv
        replace h := hide h
        go_wp2_with (go_at_call 109; refine (isSet_any _ _).mono ?_; rintro e w' ⟨rfl, rfl⟩; rw [hv.out])
        go_ret
        exact ⟨ret_bool e.out.symm, rfl⟩
      · have hnext := hide (show ((zs.take (k + 1)).all validB) = true by rw [List.take_add_one, hx, List.all_append, hall]; simp [hv])
        replace hall := hide hall
        replace hx := hide hx
        replace hv := hide hv
        replace h := hide h
        go_wp2_with (go_at_call 109; refine (isSet_any _ _).mono ?_; rintro e w' ⟨rfl, rfl⟩; rw [hv.out])
        go_roundw
        case rel => exact ⟨k + 1, by omega, by go_num, trivial, hnext.out⟩
        case measure => simp [intOf]; omega
    · obtain rfl : k = n := by omega
      have e : setsB zs = decide ((k : Int) ≤ 100) := by
        have hk' := lx.out
        rw [← hk', List.take_length] at hall
        unfold setsB
        rw [hall, Bool.true_and, hk']
        by_cases h1 : k ≤ 100
        · rw [decide_eq_true h1, decide_eq_true (by omega)]
        · rw [decide_eq_false h1, decide_eq_false (by omega)]
      replace e := hide e
      replace hall := hide hall
      go_wp2_with fail
      go_ret
      exact ⟨ret_bool (by rw [e.out]), rfl⟩
/-- Whether x may stay beside y: as a greatest set (mx), as a least one. -/
def okB (mx : Bool) (x y : Int) : Bool := (y == x) || !(if mx then insB x y else insB y x)
def topB (mx : Bool) (zs : List Int) (x : Int) : Bool := zs.all (okB mx x)
def topL (mx : Bool) (zs : List Int) : List Int := if setsB zs then (distL zs).filter (topB mx zs) else []
theorem all_take1 {zs : List Int} {k : Nat} {y : Int} (p : Int → Bool) (h : zs[k]? = some y) : (zs.take (k + 1)).all p = ((zs.take k).all p && p y) := by
  rw [List.take_add_one, h, List.all_append]; simp
theorem filter_take_succ {zs : List Int} {k : Nat} {y : Int} (p : Int → Bool) (h : zs[k]? = some y) : (zs.take (k + 1)).filter p = (zs.take k).filter p ++ (if p y then [y] else []) := by
  rw [List.take_add_one, h, List.filter_append]
  simp only [Option.toList_some, List.filter_cons, List.filter_nil]
theorem topL_len (mx : Bool) (zs : List Int) : (topL mx zs).length ≤ 100 := by
  unfold topL
  split
  · rename_i h
    have h1 := List.length_filter_le (topB mx zs) (distL zs)
    have h2 := distL_len zs
    have h3 := (setsB_le h).1
    omega
  · simp
/-- What the reference's list holds behind k rounds. -/
def TopInv (mx : Bool) (zs : List Int) (k : Nat) (ys : List Int) : Prop := SS ys ∧ (∀ z, z ∈ ys ↔ ∃ i, i < k ∧ zs[i]? = some z ∧ topB mx zs z = true) ∧ ys.length ≤ k
theorem TopInv.skip {mx : Bool} {zs ys : List Int} {k : Nat} {x : Int} (h : TopInv mx zs k ys) (hx : zs[k]? = some x) (ht : topB mx zs x = false) : TopInv mx zs (k + 1) ys := by
  refine ⟨h.1, fun z => (h.2.1 z).trans ⟨fun ⟨i, a, b⟩ => ⟨i, by omega, b⟩, fun ⟨i, a, b, c⟩ => ?_⟩, by have := h.2.2; omega⟩
  rcases Nat.lt_or_ge i k with h1 | h1
  · exact ⟨i, h1, b, c⟩
  · obtain rfl : i = k := by omega
    rw [hx] at b; cases b; rw [ht] at c; cases c
theorem TopInv.put {mx : Bool} {zs ys ys' : List Int} {k : Nat} {x : Int} (h : TopInv mx zs k ys) (hx : zs[k]? = some x) (ht : topB mx zs x = true) (hp : PutP ys x ys') : TopInv mx zs (k + 1) ys' := by
  obtain ⟨h1, h2⟩ := hp.1 h.1
  refine ⟨h1, fun z => (h2 z).trans ?_, by have := h.2.2; have := hp.2; omega⟩
  rw [h.2.1 z]
  constructor
  · rintro (⟨i, a, b⟩ | rfl)
    · exact ⟨i, by omega, b⟩
    · exact ⟨k, by omega, hx, ht⟩
  · rintro ⟨i, a, b, c⟩
    rcases Nat.lt_or_ge i k with h1 | h1
    · exact .inl ⟨i, h1, b, c⟩
    · obtain rfl : i = k := by omega
      rw [hx] at b; cases b; exact .inr rfl
theorem TopInv.done {mx : Bool} {zs ys : List Int} (h : TopInv mx zs zs.length ys) (hs : setsB zs = true) : ys = topL mx zs := by
  unfold topL
  rw [if_pos hs]
  obtain ⟨d1, d2⟩ := distL_ok zs
  refine SS.uniq h.1 (d1.filter _) fun z => (h.2.1 z).trans ?_
  rw [List.mem_filter, d2]
  constructor
  · rintro ⟨i, a, b, c⟩; exact ⟨List.mem_of_getElem? b, c⟩
  · rintro ⟨a, c⟩
    obtain ⟨i, hi⟩ := List.getElem?_of_mem a
    exact ⟨i, (List.getElem?_eq_some_iff.1 hi).1, hi, c⟩
theorem ok_and (x y : Int) (hx : 0 ≤ x ∧ x ≤ 31) (hy : 0 ≤ y ∧ y ≤ 31) : okB true x y = ((y == x) || (bits BinOp.and IntKind.i64 x y != x)) := by
  unfold okB
  rw [if_pos rfl, ins_and x y hx hy]
  rfl
def andYB : Bool := (List.range 32).all fun x => (List.range 32).all fun y => (insB (y : Int) (x : Int) == (bits BinOp.and IntKind.i64 (x : Int) (y : Int) == (y : Int)))
theorem andYB_true : andYB = true := by decide +kernel
theorem ok_andy (x y : Int) (hx : 0 ≤ x ∧ x ≤ 31) (hy : 0 ≤ y ∧ y ≤ 31) : okB false x y = ((y == x) || (bits BinOp.and IntKind.i64 x y != y)) := by
  obtain ⟨a, rfl⟩ : ∃ a : Nat, x = a := ⟨x.toNat, by omega⟩
  obtain ⟨b, rfl⟩ : ∃ b : Nat, y = b := ⟨y.toNat, by omega⟩
  have h := beq_iff_eq.1 (List.all_eq_true.1 (List.all_eq_true.1 andYB_true a (List.mem_range.2 (by omega))) b (List.mem_range.2 (by omega)))
  unfold okB
  rw [if_neg (by simp), h]
  rfl
end Go.Proofs.Ytkcckfpihpfbnaa
