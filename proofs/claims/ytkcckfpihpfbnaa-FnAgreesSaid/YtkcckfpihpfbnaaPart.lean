/-
  Walks of the functions on classes of rows: is a number in a list, which class holds it, is a partition finer.
  Conditions: as each theorem says.
-/
import Derived.Test.YtkcckfpihpfbnaaTab
import Derived.Test.YtkcckfpihpfbnaaIsTab
namespace Go.Proofs.Ytkcckfpihpfbnaa
open Go.RowKit
set_option linter.unusedVariables false

/-- Is r in the list? -/
def hasR (zs : List Int) (r : Int) : Bool := zs.contains r
theorem has_eq {x r : Int} {zs : List Int} {k : Nat} (h : zs[k]? = some x) (he : (x == r) = true) : hasR zs r = true := by
  rw [hasR, List.contains_eq_mem, decide_eq_true_iff]
  rw [beq_iff_eq] at he
  subst he
  exact List.mem_of_getElem? h
theorem has_none {r : Int} {zs : List Int} (h : zs.all (fun x => !(x == r)) = true) : hasR zs r = false := by
  rw [← Bool.not_eq_true, hasR, List.contains_eq_mem, decide_eq_true_iff]
  intro hm
  have := List.all_eq_true.1 h r hm
  simp at this

set_option maxHeartbeats 800000 in
set_option maxRecDepth 100000 in
theorem l2has (A : Option Addr) (n c : Nat) (zs : List Int) (r : Int) (w : World) (h : Reads w w.heap.size A n (zs.map (Value.int .i64))) :
    Calls Try.prog 97 #[.slice A n c, .int .i64 r] w fun e w' => e = .returned (.bool (hasR zs r)) ∧ w = w' := by
  have hn := h.bound
  have lz := hide (ints_len h)
  go_enter Try.func97, Try.ntmps97
  go_wp2_with fail
  go_loop [5] (fun i => ∃ k : Nat, k ≤ n ∧ i = .int .i64 (k : Int) ∧ (zs.take k).all (fun x => !(x == r)) = true) (fun i => n - (intOf i).toNat)
  case atStart => exact ⟨0, by omega, rfl, by simp⟩
  case round =>
    obtain ⟨k, hk, rfl, hall⟩ := hrel
    by_cases hlt : k < n
    · obtain ⟨b, o, x, rfl, hbb, hx1, hc1⟩ := at_int h hlt
      rcases hq : (x == r) with _ | _
      · have e := hide (all_take_succ (p := fun x => !(x == r)) hall hx1 (by rw [hq]; rfl))
        clear hall hx1 h
        go_wp2_with fail
        go_round
        case rel => exact ⟨k + 1, by omega, by go_num, e.out⟩
        case measure => simp [intOf]; omega
      · have e := hide (has_eq hx1 hq)
        clear hall hx1 h
        go_wp2_with fail
        go_ret
        exact ⟨ret_bool e.out.symm, rfl⟩
    · obtain rfl : k = n := by omega
      have e := hide (has_none (all_whole hall (by rw [lz.out]; exact Nat.le_refl _)))
      clear hall h
      go_wp2_with fail
      go_ret
      exact ⟨ret_bool e.out.symm, rfl⟩
set_option maxHeartbeats 800000 in
set_option maxRecDepth 100000 in
theorem hasint (A : Option Addr) (n c : Nat) (zs : List Int) (r : Int) (w : World) (h : Reads w w.heap.size A n (zs.map (Value.int .i64))) :
    Calls Try.prog 121 #[.slice A n c, .int .i64 r] w fun e w' => e = .returned (.bool (hasR zs r)) ∧ w = w' := by
  have hn := h.bound
  have lz := hide (ints_len h)
  go_enter Try.func121, Try.ntmps121
  go_wp2_with fail
  go_loop [6, 9] (fun _ i => ∃ k : Nat, k ≤ n ∧ i = .int .i64 (k : Int) ∧ (zs.take k).all (fun x => !(x == r)) = true) (fun _ i => n - (intOf i).toNat)
  case atStart => exact ⟨0, by omega, rfl, by simp⟩
  case round =>
    obtain ⟨k, hk, rfl, hall⟩ := hrel
    by_cases hlt : k < n
    · obtain ⟨b, o, x, rfl, hbb, hx1, hc1⟩ := at_int h hlt
      rcases hq : (x == r) with _ | _
      · have e := hide (all_take_succ (p := fun x => !(x == r)) hall hx1 (by rw [hq]; rfl))
        clear hall hx1 h
        go_wp2_with fail
        go_round
        case rel => exact ⟨k + 1, by omega, by go_num, e.out⟩
        case measure => simp [intOf]; omega
      · have e := hide (has_eq hx1 hq)
        clear hall hx1 h
        go_wp2_with fail
        go_ret
        exact ⟨ret_bool e.out.symm, rfl⟩
    · obtain rfl : k = n := by omega
      have e := hide (has_none (all_whole hall (by rw [lz.out]; exact Nat.le_refl _)))
      clear hall h
      go_wp2_with fail
      go_ret
      exact ⟨ret_bool e.out.symm, rfl⟩

/-- The first list that holds r, counted from i on, or -1. -/
def clsFrom (i : Int) : List (List Int) → Int → Int
  | [], _ => -1
  | zs :: l, r => if hasR zs r = true then i else clsFrom (i + 1) l r
def clsV (zss : List (List Int)) (r : Int) : Int := clsFrom 0 zss r
theorem clsFrom_skip : ∀ (zss : List (List Int)) (k : Nat) (i r : Int), (zss.take k).all (fun zs => !hasR zs r) = true → k ≤ zss.length → clsFrom i zss r = clsFrom (i + k) (zss.drop k) r
  | zss, 0, i, r, _, _ => by simp
  | [], k + 1, i, r, _, h => by simp at h
  | zs :: l, k + 1, i, r, h, hl => by
    rw [List.take_succ_cons, List.all_cons, Bool.and_eq_true] at h
    have h1 : ¬ hasR zs r = true := by have := h.1; simpa using this
    rw [clsFrom, if_neg h1, List.drop_succ_cons, clsFrom_skip l k (i + 1) r h.2 (by simpa using hl)]
    congr 1
    omega
theorem cls_at {zss : List (List Int)} {k : Nat} {zs : List Int} {r : Int} (h : (zss.take k).all (fun zs => !hasR zs r) = true) (hz : zss[k]? = some zs) (hc : hasR zs r = true) : clsV zss r = k := by
  have hk := (List.getElem?_eq_some_iff.1 hz)
  obtain ⟨hk, he⟩ := hk
  rw [clsV, clsFrom_skip zss k 0 r h (by omega), List.drop_eq_getElem_cons hk, he, clsFrom, if_pos hc]
  omega
theorem cls_none {zss : List (List Int)} {r : Int} (h : zss.all (fun zs => !hasR zs r) = true) : clsV zss r = -1 := by
  rw [clsV, clsFrom_skip zss zss.length 0 r (by rw [List.take_length]; exact h) (Nat.le_refl _), List.drop_length, clsFrom]

set_option maxHeartbeats 800000 in
set_option maxRecDepth 100000 in
theorem l5class (A : Option Addr) (n c : Nat) (zss : List (List Int)) (r : Int) (w : World) (h : RowsAt w w.heap.size A n zss) :
    Calls Try.prog 96 #[.slice A n c, .int .i64 r] w fun e w' => e = .returned (.int .i64 (clsV zss r)) ∧ w = w' := by
  have hn := rows_bound h
  have lz := hide h.1
  go_enter Try.func96, Try.ntmps96
  go_wp2_with fail
  go_loop [5] (fun i => ∃ k : Nat, k ≤ n ∧ i = .int .i64 (k : Int) ∧ (zss.take k).all (fun zs => !hasR zs r) = true) (fun i => n - (intOf i).toNat)
  case atStart => exact ⟨0, by omega, rfl, by simp⟩
  case round =>
    obtain ⟨k, hk, rfl, hall⟩ := hrel
    by_cases hlt : k < n
    · obtain ⟨b, o, zs, A', c', rfl, hbb, hz1, hc1, hr⟩ := at_row h hlt
      rcases hq : hasR zs r with _ | _
      · have e := hide (all_take_succ (p := fun zs => !hasR zs r) hall hz1 (by rw [hq]; rfl))
        replace hq := hide hq
        replace hr := hide hr
        clear hall hz1 h
        go_wp2_with (go_at_call 97; refine (l2has _ _ _ _ _ _ hr.out).mono ?_; rintro e w' ⟨rfl, rfl⟩; rw [hq.out])
        go_round
        case rel => exact ⟨k + 1, by omega, by go_num, e.out⟩
        case measure => simp [intOf]; omega
      · have e := hide (cls_at hall hz1 hq)
        replace hq := hide hq
        replace hr := hide hr
        clear hall hz1 h
        go_wp2_with (go_at_call 97; refine (l2has _ _ _ _ _ _ hr.out).mono ?_; rintro e w' ⟨rfl, rfl⟩; rw [hq.out])
        go_ret
        exact ⟨ret_int e.out.symm, rfl⟩
    · obtain rfl : k = n := by omega
      have e := hide (cls_none (all_whole hall (by rw [lz.out]; exact Nat.le_refl _)))
      clear hall h
      go_wp2_with fail
      go_ret
      exact ⟨ret_int e.out.symm, rfl⟩
set_option maxHeartbeats 800000 in
set_option maxRecDepth 100000 in
theorem ownerof (A : Option Addr) (n c : Nat) (zss : List (List Int)) (r : Int) (w : World) (h : RowsAt w w.heap.size A n zss) :
    Calls Try.prog 101 #[.slice A n c, .int .i64 r] w fun e w' => e = .returned (.int .i64 (clsV zss r)) ∧ w = w' := by
  have hn := rows_bound h
  have lz := hide h.1
  go_enter Try.func101, Try.ntmps101
  go_wp2_with fail
  go_loop [5, 6, 9] (fun _ _ i => ∃ k : Nat, k ≤ n ∧ i = .int .i64 (k : Int) ∧ (zss.take k).all (fun zs => !hasR zs r) = true) (fun _ _ i => n - (intOf i).toNat)
  case atStart => exact ⟨0, by omega, rfl, by simp⟩
  case round =>
    obtain ⟨k, hk, rfl, hall⟩ := hrel
    by_cases hlt : k < n
    · obtain ⟨b, o, zs, A', c', rfl, hbb, hz1, hc1, hr⟩ := at_row h hlt
      rcases hq : hasR zs r with _ | _
      · have e := hide (all_take_succ (p := fun zs => !hasR zs r) hall hz1 (by rw [hq]; rfl))
        replace hq := hide hq
        replace hr := hide hr
        clear hall hz1 h
        go_wp2_with (go_at_call 121; refine (hasint _ _ _ _ _ _ hr.out).mono ?_; rintro e w' ⟨rfl, rfl⟩; rw [hq.out])
        go_round
        case rel => exact ⟨k + 1, by omega, by go_num, e.out⟩
        case measure => simp [intOf]; omega
      · have e := hide (cls_at hall hz1 hq)
        replace hq := hide hq
        replace hr := hide hr
        clear hall hz1 h
        go_wp2_with (go_at_call 121; refine (hasint _ _ _ _ _ _ hr.out).mono ?_; rintro e w' ⟨rfl, rfl⟩; rw [hq.out])
        go_ret
        exact ⟨ret_int e.out.symm, rfl⟩
    · obtain rfl : k = n := by omega
      have e := hide (cls_none (all_whole hall (by rw [lz.out]; exact Nat.le_refl _)))
      clear hall h
      go_wp2_with fail
      go_ret
      exact ⟨ret_int e.out.symm, rfl⟩
end Go.Proofs.Ytkcckfpihpfbnaa
