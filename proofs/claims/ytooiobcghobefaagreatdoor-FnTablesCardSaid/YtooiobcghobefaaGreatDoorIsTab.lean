/-
  Walks of IsTable, in the program and in the reference.
  Conditions: as each theorem says.
-/
import Derived.Test.YtooiobcghobefaaGreatDoorTab
import Derived.Test.YtooiobcghobefaaGreatDoorAttr
namespace Go.Proofs.YtooiobcghobefaaGreatDoor
open Go.RowKit
set_option linter.unusedVariables false

def cellB (v : Int) : Bool := decide (-1 ≤ v) && decide (v ≤ 40)
def isRowB (zs : List Int) (m : Int) : Bool := zs.all cellB && ((zs.length : Int) == m)
def isTabB (m : Int) (zss : List (List Int)) : Bool := decide (1 ≤ m) && decide (m ≤ 5) && decide (zss.length ≤ 40) && zss.all fun zs => isRowB zs m
theorem all_take_succ {α : Type} {xs : List α} {k : Nat} {x : α} {p : α → Bool} (h : (xs.take k).all p = true) (hx : xs[k]? = some x) (hp : p x = true) : (xs.take (k + 1)).all p = true := by
  rw [List.take_add_one, hx, List.all_append, h]; simp [hp]
theorem all_bad {α : Type} {xs : List α} {k : Nat} {x : α} {p : α → Bool} (hx : xs[k]? = some x) (hp : p x = false) : xs.all p = false := by
  rw [← Bool.not_eq_true, List.all_eq_true]
  intro h
  have := h x (List.mem_of_getElem? hx)
  rw [hp] at this; cases this
theorem all_whole {α : Type} {xs : List α} {n : Nat} {p : α → Bool} (h : (xs.take n).all p = true) (hn : xs.length ≤ n) : xs.all p = true := by rwa [List.take_of_length_le hn] at h

set_option maxHeartbeats 800000 in
set_option maxRecDepth 100000 in
theorem isRow_any (A : Option Addr) (n c : Nat) (zs : List Int) (m : Int) (w : World) (h : Reads w w.heap.size A n (zs.map (Value.int .i64))) :
    Calls Tryz.prog 34 #[.slice A n c, .int .i64 m] w fun e w' => e = .returned (.bool (isRowB zs m)) ∧ w = w' := by
  have hn := h.bound
  have lz := hide (ints_len h)
  go_enter Tryz.func34, Tryz.ntmps34
  go_wp2_with fail
  go_loop [6, 9] (fun _ i => ∃ k : Nat, k ≤ n ∧ i = .int .i64 (k : Int) ∧ (zs.take k).all cellB = true) (fun _ i => n - (intOf i).toNat)
  case atStart => exact ⟨0, by omega, rfl, by simp⟩
  case round =>
    obtain ⟨k, hk, rfl, hall⟩ := hrel
    by_cases hlt : k < n
    · obtain ⟨b, o, x, rfl, hbb, hx1, hc1⟩ := at_int h hlt
      rcases hcb : cellB x with _ | _
      · have e := hide (show isRowB zs m = false by rw [isRowB, all_bad hx1 hcb]; rfl)
        clear hall hx1
        have hor : x < -1 ∨ 40 < x := by
          unfold cellB at hcb; simp at hcb; omega
        clear hcb h
        by_cases h1 : x < -1
        · clear hor
          go_wp2_with fail
          go_ret
          exact ⟨ret_bool e.out.symm, rfl⟩
        · have h2 : 40 < x := by omega
          clear hor
          go_wp2_with fail
          go_ret
          exact ⟨ret_bool e.out.symm, rfl⟩
      · have e := hide (all_take_succ hall hx1 hcb)
        have hor : -1 ≤ x ∧ x ≤ 40 := by unfold cellB at hcb; simp at hcb; omega
        obtain ⟨o1, o2⟩ := hor
        clear hall hx1 hcb h
        go_wp2_with fail
        go_round
        case rel => exact ⟨k + 1, by omega, by go_num, e.out⟩
        case measure => simp [intOf]; omega
    · obtain rfl : k = n := by omega
      have e := hide (show isRowB zs m = ((k : Int) == m) by rw [isRowB, all_whole hall (by rw [lz.out]; exact Nat.le_refl _), lz.out]; rfl)
      clear hall h
      go_wp2_with fail
      go_ret
      exact ⟨ret_bool e.out.symm, rfl⟩
set_option maxHeartbeats 800000 in
set_option maxRecDepth 100000 in
theorem l3row_any (A : Option Addr) (n c : Nat) (zs : List Int) (m : Int) (w : World) (h : Reads w w.heap.size A n (zs.map (Value.int .i64))) :
    Calls Tryz.prog 30 #[.slice A n c, .int .i64 m] w fun e w' => e = .returned (.bool (isRowB zs m)) ∧ w = w' := by
  have hn := h.bound
  have lz := hide (ints_len h)
  go_enter Tryz.func30, Tryz.ntmps30
  go_wp2_with fail
  go_loop [5] (fun i => ∃ k : Nat, k ≤ n ∧ i = .int .i64 (k : Int) ∧ (zs.take k).all cellB = true) (fun i => n - (intOf i).toNat)
  case atStart => exact ⟨0, by omega, rfl, by simp⟩
  case round =>
    obtain ⟨k, hk, rfl, hall⟩ := hrel
    by_cases hlt : k < n
    · obtain ⟨b, o, x, rfl, hbb, hx1, hc1⟩ := at_int h hlt
      rcases hcb : cellB x with _ | _
      · have e := hide (show isRowB zs m = false by rw [isRowB, all_bad hx1 hcb]; rfl)
        replace hcb := hide hcb
        clear hall hx1 h
        go_wp2_with (go_at_call 31; refine (l1in _ _ _ false _ hcb.out).mono ?_; rintro e w' ⟨rfl, rfl⟩)
        go_ret
        exact ⟨ret_bool e.out.symm, rfl⟩
      · have e := hide (all_take_succ hall hx1 hcb)
        replace hcb := hide hcb
        clear hall hx1 h
        go_wp2_with (go_at_call 31; refine (l1in _ _ _ true _ hcb.out).mono ?_; rintro e w' ⟨rfl, rfl⟩)
        go_round
        case rel => exact ⟨k + 1, by omega, by go_num, e.out⟩
        case measure => simp [intOf]; omega
    · obtain rfl : k = n := by omega
      have e := hide (show isRowB zs m = ((k : Int) == m) by rw [isRowB, all_whole hall (by rw [lz.out]; exact Nat.le_refl _), lz.out]; rfl)
      clear hall h
      go_wp2_with fail
      go_ret
      exact ⟨ret_bool e.out.symm, rfl⟩
theorem isTabB_bad {m : Int} {zss : List (List Int)} {k : Nat} {zs : List Int} (h : zss[k]? = some zs) (hb : isRowB zs m = false) : isTabB m zss = false := by
  rw [isTabB, all_bad (p := fun zs => isRowB zs m) h hb, Bool.and_false]
end Go.Proofs.YtooiobcghobefaaGreatDoor
