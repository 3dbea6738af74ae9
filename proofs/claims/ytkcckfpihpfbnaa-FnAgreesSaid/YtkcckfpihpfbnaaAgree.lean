/-
  Walks of AgreeOf, in the program and in the reference.
  Conditions: as each theorem says.
-/
import Derived.Test.YtkcckfpihpfbnaaIsTab2
namespace Go.Proofs.Ytkcckfpihpfbnaa
open Go.RowKit
set_option linter.unusedVariables false

def eqCB (mode a b : Int) : Bool := ((mode == 0) || (mode == 1)) && (a == b) && ((mode == 0) || (a != -1))
theorem specEqC (mode a b : Int) (w : World) : Calls Try.prog 32 #[.int .i64 mode, .int .i64 a, .int .i64 b] w fun e w' => e = .returned (.bool (eqCB mode a b)) ∧ w = w' := by
  by_cases h0 : mode = 0 <;> by_cases h1 : mode = 1 <;> by_cases h2 : a = b <;> by_cases h3 : a = -1
  all_goals first | (exfalso; omega) | skip
  all_goals
    go_enter Try.func32, Try.ntmps32
    go_wp2
    go_ret
    exact ⟨ret_bool (by simp [eqCB, *]), rfl⟩
theorem implEqC (mode a b : Int) (w : World) : Calls Try.prog 31 #[.int .i64 mode, .int .i64 a, .int .i64 b] w fun e w' => e = .returned (.bool (eqCB mode a b)) ∧ w = w' := by
  by_cases h0 : mode = 0 <;> by_cases h1 : mode = 1 <;> by_cases h2 : a = b <;> by_cases h3 : a = -1
  all_goals first | (exfalso; omega) | skip
  all_goals
    go_enter Try.func31, Try.ntmps31
    go_wp2
    go_ret
    exact ⟨ret_bool (by simp [eqCB, *]), rfl⟩
def agrN (mode : Int) (xs ys : List Int) : Nat → Nat
  | 0 => 0
  | k + 1 => agrN mode xs ys k + bif eqCB mode (xs.getD k 0) (ys.getD k 0) then 2 ^ k else 0
theorem agrN_lt (mode : Int) (xs ys : List Int) (k : Nat) : agrN mode xs ys k < 2 ^ k := by
  induction k with
  | zero => simp [agrN]
  | succ k ih =>
    rw [agrN, Nat.pow_succ]
    cases eqCB mode (xs.getD k 0) (ys.getD k 0) <;> simp <;> omega
theorem or_pow (v k : Nat) (hk : k < 5) (hv : v < 2 ^ k) : v ||| 2 ^ k = v + 2 ^ k := by
  have : k = 0 ∨ k = 1 ∨ k = 2 ∨ k = 3 ∨ k = 4 := by omega
  have h : ∀ k < 5, ∀ v < 2 ^ k, v ||| 2 ^ k = v + 2 ^ k := by decide
  exact h k hk v hv

theorem wrap_pow (k : Nat) (hk : k < 5) : wrap64 ((2 : Int) ^ k) = ((2 ^ k : Nat) : Int) := by
  have : k = 0 ∨ k = 1 ∨ k = 2 ∨ k = 3 ∨ k = 4 := by omega
  rcases this with rfl | rfl | rfl | rfl | rfl <;> decide +kernel
theorem pow_le5 (k : Nat) (hk : k < 5) : 2 ^ k ≤ 16 := by
  have : k = 0 ∨ k = 1 ∨ k = 2 ∨ k = 3 ∨ k = 4 := by omega
  rcases this with rfl | rfl | rfl | rfl | rfl <;> decide
set_option maxHeartbeats 1600000 in
set_option maxRecDepth 100000 in
theorem l4agree (m : Nat) (A : Option Addr) (n c : Nat) (zss : List (List Int)) (mode : Int) (i j : Nat) (xs ys : List Int) (w : World) (h : RowsAt w w.heap.size A n zss) (hm : m ≤ 5) (hi : zss[i]? = some xs) (hj : zss[j]? = some ys) (li : xs.length = m) (lj : ys.length = m) :
    Calls Try.prog 82 #[.agg #[.int .i64 (m : Int), .slice A n c], .int .i64 mode, .int .i64 (i : Int), .int .i64 (j : Int)] w (RetVal w (.int .i64 (agrN mode xs ys m : Int))) := by
  have hn := rows_bound h
  have hin : i < n := by have := (List.getElem?_eq_some_iff.1 hi).1; have := h.1; omega
  have hjn : j < n := by have := (List.getElem?_eq_some_iff.1 hj).1; have := h.1; omega
  have lz := hide h.1
  replace hi := hide hi
  replace hj := hide hj
  go_enter Try.func82, Try.ntmps82
  go_wp2_with fail
  obtain ⟨wb, hwb⟩ : ∃ wb, wb = w.alloc (.cells #[.int .i64 (m : Int), .slice A n c] 26) := ⟨_, rfl⟩
  have hbx : Below w.heap.size w wb := by rw [hwb]; go_grown
  have h' := h.later hbx
  have k0 : wb.cell? ⟨w.heap.size, 0, none⟩ = some (.int .i64 (m : Int)) := by rw [hwb, World.cell?_alloc_at _ _ _ _ rfl]; rfl
  have k1 : wb.cell? ⟨w.heap.size, 1, none⟩ = some (.slice A n c) := by rw [hwb, World.cell?_alloc_at _ _ _ _ rfl]; rfl
  rw [← hwb]
  clear hwb h
  go_loopw [9, 10] (fun o q wr => ∃ k v z : Nat, k ≤ m ∧ q = .int .i64 (k : Int) ∧ o = .int .i64 (v : Int) ∧ v = agrN mode xs ys k ∧ wr = wb.drewN z) (fun _ q _ => m - (intOf q).toNat)
  case atStart => exact ⟨0, 0, 0, by omega, rfl, rfl, rfl, rfl⟩
  case round =>
    obtain ⟨k, v, z, hk, rfl, rfl, hv, hwr⟩ := hrel
    replace k0 : wr.cell? ⟨w.heap.size, 0, none⟩ = some (.int .i64 (m : Int)) := by rw [hwr]; exact k0
    replace k1 : wr.cell? ⟨w.heap.size, 1, none⟩ = some (.slice A n c) := by rw [hwr]; exact k1
    have hbw : Below w.heap.size w wr := by rw [hwr]; exact below_drewN hbx _
    by_cases hlt : k < m
    · have h2 : RowsAt wr wb.heap.size A n zss := by rw [hwr]; exact h'
      obtain ⟨b, o, xs', A1, c1, rfl, hbb, hz1, hc1, hr1⟩ := at_row h2 hin
      rw [hi.out] at hz1; cases hz1
      obtain ⟨b', o', ys', A2, c2, e2, hbb2, hz2, hc2, hr2⟩ := at_row h2 hjn
      cases e2
      rw [hj.out] at hz2; cases hz2
      obtain ⟨b3, o3, x, rfl, hb3, hx, hc3⟩ := at_int hr1 (show k < xs.length by omega)
      obtain ⟨b4, o4, y, rfl, hb4, hy, hc4⟩ := at_int hr2 (show k < ys.length by omega)
      have hkx : k < xs.length := by omega
      have hky : k < ys.length := by omega
      have hcall : ∀ q, Calls Try.prog 32 #[.int .i64 mode, .int .i64 x, .int .i64 y] (wr.drewN q) fun e w'' => e = .returned (.bool (eqCB mode x y)) ∧ ∃ m, w'' = wr.drewN m := fun q =>
        Calls.quiet_of ((specEqC mode x y (wr.drewN q)).mono fun e w' ⟨h1, h2⟩ => ⟨h1, 0, h2.symm⟩)
      have hvl := agrN_lt mode xs ys k
      rw [← hv] at hvl
      have hgx : xs.getD k 0 = x := by rw [List.getD_eq_getElem?_getD, hx]; rfl
      have hgy : ys.getD k 0 = y := by rw [List.getD_eq_getElem?_getD, hy]; rfl
      have hstep := hide (show agrN mode xs ys (k + 1) = v + bif eqCB mode x y then 2 ^ k else 0 by rw [agrN, hgx, hgy, hv])
      replace hv := hide hv
      replace hwr := hide hwr
      clear hgx hgy h2 hr1 hr2 hx hy
      rcases hcb : eqCB mode x y with _ | _
      · rw [hcb] at hcall hstep
        replace hcall := hide hcall
        go_wp2_with fail
        go_quiet ((go_at_call 32; exact hcall.out _))
        go_wp2_with fail
        go_roundw
        case rel => exact ⟨k + 1, v, z + nq, by omega, by go_num, rfl, hstep.out.symm, by rw [hwr.out, World.drewN_drewN]⟩
        case measure => simp [intOf]; omega
      · rw [hcb] at hcall hstep
        replace hcall := hide hcall
        have hk5 : k < 5 := by omega
        have hor := hide (show bits .or .i64 (v : Int) (wrap64 ((2 : Int) ^ k)) = ((v + 2 ^ k : Nat) : Int) from by
          rw [wrap_pow k hk5, i64_or_nat v (2 ^ k) (by have := pow_le5 k hk5; omega) (by have := pow_le5 k hk5; omega), or_pow v k hk5 hvl])
        go_wp2_with fail
        go_quiet ((go_at_call 32; exact hcall.out _))
        go_wp2_with fail
        go_roundw
        case rel => exact ⟨k + 1, v + 2 ^ k, z + nq, by omega, by go_num, int_eq hor.out, hstep.out.symm, by rw [hwr.out, World.drewN_drewN]⟩
        case measure => simp [intOf]; omega
    · obtain rfl : k = m := by omega
      replace hv := hide hv
      replace hwr := hide hwr
      go_wp2_with fail
      go_ret
      exact ⟨ret_int (by rw [hv.out]), hbw⟩
set_option maxHeartbeats 1600000 in
set_option maxRecDepth 100000 in
theorem implAgree (m : Nat) (A B : Option Addr) (c d : Nat) (mode : Int) (xs ys : List Int) (w : World) (hx : Reads w w.heap.size A m (xs.map (Value.int .i64))) (hy : Reads w w.heap.size B m (ys.map (Value.int .i64))) (hm : m ≤ 5) :
    Calls Try.prog 76 #[.int .i64 mode, .slice A m c, .slice B m d] w (RetQuiet w (.int .i64 (agrN mode xs ys m : Int))) := by
  have lx := ints_len hx
  have ly := ints_len hy
  go_enter Try.func76, Try.ntmps76
  go_wp2_with fail
  go_loopw [7, 8, 11] (fun o _ q wr => ∃ k v z : Nat, k ≤ m ∧ q = .int .i64 (k : Int) ∧ o = .int .i64 (v : Int) ∧ v = agrN mode xs ys k ∧ wr = w.drewN z) (fun _ _ q _ => m - (intOf q).toNat)
  case atStart => exact ⟨0, 0, 0, by omega, rfl, rfl, rfl, rfl⟩
  case round =>
    obtain ⟨k, v, z, hk, rfl, rfl, hv, hwr⟩ := hrel
    by_cases hlt : k < m
    · have hx2 : Reads wr w.heap.size A m (xs.map (Value.int .i64)) := by rw [hwr]; exact hx
      have hy2 : Reads wr w.heap.size B m (ys.map (Value.int .i64)) := by rw [hwr]; exact hy
      obtain ⟨b3, o3, x, rfl, hb3, hx3, hc3⟩ := at_int hx2 hlt
      obtain ⟨b4, o4, y, rfl, hb4, hy3, hc4⟩ := at_int hy2 hlt
      have hcall : ∀ q, Calls Try.prog 31 #[.int .i64 mode, .int .i64 x, .int .i64 y] (wr.drewN q) fun e w'' => e = .returned (.bool (eqCB mode x y)) ∧ ∃ m, w'' = wr.drewN m := fun q =>
        Calls.quiet_of ((implEqC mode x y (wr.drewN q)).mono fun e w' ⟨h1, h2⟩ => ⟨h1, 0, h2.symm⟩)
      have hvl := agrN_lt mode xs ys k
      rw [← hv] at hvl
      have hgx : xs.getD k 0 = x := by rw [List.getD_eq_getElem?_getD, hx3]; rfl
      have hgy : ys.getD k 0 = y := by rw [List.getD_eq_getElem?_getD, hy3]; rfl
      have hstep := hide (show agrN mode xs ys (k + 1) = v + bif eqCB mode x y then 2 ^ k else 0 by rw [agrN, hgx, hgy, hv])
      have hk5 : k < 5 := by omega
      have hor := hide (show bits .or .i64 (v : Int) (wrap64 ((2 : Int) ^ k)) = ((v + 2 ^ k : Nat) : Int) from by
        rw [wrap_pow k hk5, i64_or_nat v (2 ^ k) (by have := pow_le5 k hk5; omega) (by have := pow_le5 k hk5; omega), or_pow v k hk5 hvl])
      replace hv := hide hv
      replace hwr := hide hwr
      replace lx := hide lx
      replace ly := hide ly
      clear hgx hgy hx2 hy2 hx hy hx3 hy3
      rcases hcb : eqCB mode x y with _ | _
      · rw [hcb] at hcall hstep
        replace hcall := hide hcall
        go_wp2_with fail
        go_quiet ((go_at_call 31; exact hcall.out _))
        go_wp2_with fail
        go_roundw
        case rel => exact ⟨k + 1, v, z + nq, by omega, by go_num, rfl, hstep.out.symm, by rw [hwr.out, World.drewN_drewN]⟩
        case measure => simp [intOf]; omega
      · rw [hcb] at hcall hstep
        replace hcall := hide hcall
        go_wp2_with fail
        go_quiet ((go_at_call 31; exact hcall.out _))
        go_wp2_with fail
        go_roundw
        case rel => exact ⟨k + 1, v + 2 ^ k, z + nq, by omega, by go_num, int_eq hor.out, hstep.out.symm, by rw [hwr.out, World.drewN_drewN]⟩
        case measure => simp [intOf]; omega
    · obtain rfl : k = m := by omega
      replace hv := hide hv
      replace hwr := hide hwr
      replace lx := hide lx
      replace ly := hide ly
      go_wp2_with fail
      go_ret
      exact ⟨ret_int (by rw [hv.out]), z, hwr.out⟩
end Go.Proofs.Ytkcckfpihpfbnaa
