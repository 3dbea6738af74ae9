/-
  Walks of ErrorOf, in the program and in the reference.
  Conditions: as each theorem says.
-/
import Derived.Test.YtgoggljmifjlfaaTab
namespace Go.Proofs.Ytgoggljmifjlfaa
open Go.RowKit
set_option linter.unusedVariables false

/-- What ErrorOf answers. -/
def errOf (zss : List (List Int)) : Nat := (zss.map fun zs => zs.length - 1).sum
theorem errOf_take_succ {zss : List (List Int)} {k : Nat} {zs : List Int} (h : zss[k]? = some zs) : errOf (zss.take (k + 1)) = errOf (zss.take k) + (zs.length - 1) := by
  unfold errOf
  rw [List.take_add_one, h]; simp
theorem errOf_le (zss : List (List Int)) : errOf zss ≤ lens zss := by
  induction zss with
  | nil => simp [errOf, lens]
  | cons a l ih => simp only [errOf, lens, List.map_cons, List.sum_cons] at *; omega

set_option maxHeartbeats 800000 in
set_option maxRecDepth 100000 in
theorem implErr (A : Option Addr) (n c : Nat) (zss : List (List Int)) (w : World) (h : RowsAt w w.heap.size A n zss) (hs : n + lens zss ≤ 1048576) :
    Calls Try.prog 35 #[.slice A n c] w fun e w' => e = .returned (.int .i64 (errOf zss : Int)) ∧ w = w' := by
  have hn : n ≤ 1048576 := by omega
  have lz := hide h.1
  go_enter Try.func35, Try.ntmps35
  go_wp2_with fail
  go_loop [3, 5, 8] (fun s _ i => ∃ k N : Nat, k ≤ n ∧ i = .int .i64 (k : Int) ∧ s = .int .i64 (N : Int) ∧ N = errOf (zss.take k)) (fun _ _ i => n - (intOf i).toNat)
  case atStart => exact ⟨0, 0, by omega, rfl, rfl, by simp [errOf]⟩
  case round =>
    obtain ⟨k, N, hk, rfl, rfl, hN⟩ := hrel
    have hNb : N ≤ 1048576 := by
      have h1 := errOf_le (zss.take k)
      have h2 := lens_take_le zss k
      omega
    by_cases hlt : k < n
    · obtain ⟨b, o, zs, A', c', rfl, hbb, hz1, hc1, hr⟩ := at_row h hlt
      have hzb : zs.length ≤ 1048576 := by
        have h1 := lens_take_succ hz1
        have h2 := lens_take_le zss (k + 1)
        omega
      have e := errOf_take_succ hz1
      rw [← hN] at e
      have hmax : max (0 : Int) ((zs.length : Int) - 1) = ((zs.length - 1 : Nat) : Int) := by omega
      replace e := hide e
      replace hN := hide hN
      replace hz1 := hide hz1
      clear hr h
      go_wp2_with fail
      go_round
      case rel => exact ⟨k + 1, N + (zs.length - 1), by omega, by go_num, int_eq (by omega), e.out.symm⟩
      case measure => simp [intOf]; omega
    · obtain rfl : k = n := by omega
      rw [List.take_of_length_le (by rw [lz.out]; exact Nat.le_refl _)] at hN
      replace hN := hide hN
      go_wp2_with fail
      go_ret
      exact ⟨ret_int (a := (N : Int)) (by rw [hN.out]), rfl⟩
set_option maxHeartbeats 800000 in
set_option maxRecDepth 100000 in
theorem specErr (A : Option Addr) (n c : Nat) (zss : List (List Int)) (w : World) (h : RowsAt w w.heap.size A n zss) (hs : n + lens zss ≤ 1048576) :
    Calls Try.prog 33 #[.slice A n c] w fun e w' => e = .returned (.int .i64 (errOf zss : Int)) ∧ w = w' := by
  have hn : n ≤ 1048576 := by omega
  have lz := hide h.1
  go_enter Try.func33, Try.ntmps33
  go_wp2_with fail
  go_loop [3, 4] (fun s i => ∃ k N : Nat, k ≤ n ∧ i = .int .i64 (k : Int) ∧ s = .int .i64 (N : Int) ∧ N = errOf (zss.take k)) (fun _ i => n - (intOf i).toNat)
  case atStart => exact ⟨0, 0, by omega, rfl, rfl, by simp [errOf]⟩
  case round =>
    obtain ⟨k, N, hk, rfl, rfl, hN⟩ := hrel
    have hNb : N ≤ 1048576 := by
      have h1 := errOf_le (zss.take k)
      have h2 := lens_take_le zss k
      omega
    by_cases hlt : k < n
    · obtain ⟨b, o, zs, A', c', rfl, hbb, hz1, hc1, hr⟩ := at_row h hlt
      have hzb : zs.length ≤ 1048576 := by
        have h1 := lens_take_succ hz1
        have h2 := lens_take_le zss (k + 1)
        omega
      have e := errOf_take_succ hz1
      rw [← hN] at e
      have hmax : max (0 : Int) ((zs.length : Int) - 1) = ((zs.length - 1 : Nat) : Int) := by omega
      replace e := hide e
      replace hN := hide hN
      replace hz1 := hide hz1
      clear hr h
      go_wp2_with fail
      go_round
      case rel => exact ⟨k + 1, N + (zs.length - 1), by omega, by go_num, int_eq (by omega), e.out.symm⟩
      case measure => simp [intOf]; omega
    · obtain rfl : k = n := by omega
      rw [List.take_of_length_le (by rw [lz.out]; exact Nat.le_refl _)] at hN
      replace hN := hide hN
      go_wp2_with fail
      go_ret
      exact ⟨ret_int (a := (N : Int)) (by rw [hN.out]), rfl⟩
end Go.Proofs.Ytgoggljmifjlfaa
