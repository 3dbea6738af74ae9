/-
  The program's order of sets, sorted by slices.SortFunc.
  Conditions: as each theorem says.
-/
import Derived.Test.YtkcckfpihpfbnaaAttr
import Derived.Test.YtkcckfpihpfbnaaDist
import Derived.Shelf.SlSortCmp.NoneTotal
import Derived.Shelf.Lay
import Derived.Ground.SlsfProg
import Derived.Lib.RowBridge
import Derived.Lib.SortBridge
namespace Go.Proofs
open Go.Shelf
shelf_lay_g SlLaysF.n6 Slsf 6 at Try 105 as Try.sortL
end Go.Proofs
namespace Go.Proofs.Ytkcckfpihpfbnaa
open Go.RowKit
set_option linter.unusedVariables false

theorem cases32 {p : Nat → Prop} (h : ∀ k : Fin 32, p k.val) (x : Nat) (hx : x < 32) : p x := h ⟨x, hx⟩
/-- How many bits x has. -/
def pcN (x : Nat) : Nat := (memL (x : Int)).length
set_option maxRecDepth 100000 in
theorem ones64 (x : Nat) (hx : x < 32) (w : World) : Calls Try.prog 138 #[.int .u64 (x : Int)] w fun e w' => e = .returned (.int .i64 (pcN x : Int)) ∧ w = w' := by
  go_enter Try.func138, Try.ntmps138
  go_wp2_with fail
  go_ret
  refine ⟨ret_int ?_, rfl⟩
  apply cases32 _ x hx
  decide +kernel
set_option maxRecDepth 100000 in
theorem ones (x : Nat) (hx : x < 32) (w : World) : Calls Try.prog 124 #[.int .u64 (x : Int)] w fun e w' => e = .returned (.int .i64 (pcN x : Int)) ∧ w = w' := by
  go_enter Try.func124, Try.ntmps124
  go_wp2_with (go_at_call 138; refine (ones64 x hx _).mono ?_; rintro e w' ⟨rfl, rfl⟩)
  go_ret
  exact ⟨rfl, rfl⟩
/-- What compareSets answers. -/
def cmpS (x y : Fin 32) : Int := if pcN x.val = pcN y.val then (x.val : Int) - (y.val : Int) else (pcN x.val : Int) - (pcN y.val : Int)
theorem pcN_le (x : Nat) : pcN x ≤ 5 := memL_len _
set_option maxRecDepth 100000 in
theorem compares (x y : Fin 32) (w : World) : Calls Try.prog 106 #[.int .i64 (x.val : Int), .int .i64 (y.val : Int)] w fun e w' => e = .returned (.int .i64 (cmpS x y)) ∧ w = w' := by
  obtain ⟨x, hx⟩ := x
  obtain ⟨y, hy⟩ := y
  have px := pcN_le x
  have py := pcN_le y
  have ox := fun W => ones x hx W
  have oy := fun W => ones y hy W
  unfold cmpS
  simp only
  by_cases hc : pcN x = pcN y
  · rw [if_pos hc]
    have d1 : ((pcN x : Int) != (pcN y : Int)) = false := by rw [hc]; simp
    generalize pcN x = a at *
    generalize pcN y = b at *
    replace ox := hide ox
    replace oy := hide oy
    replace hc := hide hc
    go_enter Try.func106, Try.ntmps106
    go_wp2_with (first
      | (go_at_call_of 124 (Value.int .u64 (x : Int)); refine (ox.out _).mono ?_; rintro e w' ⟨rfl, rfl⟩)
      | (go_at_call_of 124 (Value.int .u64 (y : Int)); refine (oy.out _).mono ?_; rintro e w' ⟨rfl, rfl⟩))
    go_ret
    exact ⟨rfl, rfl⟩
  · rw [if_neg hc]
    have d1 : ((pcN x : Int) != (pcN y : Int)) = true := by simp; omega
    generalize pcN x = a at *
    generalize pcN y = b at *
    replace ox := hide ox
    replace oy := hide oy
    replace hc := hide hc
    go_enter Try.func106, Try.ntmps106
    go_wp2_with (first
      | (go_at_call_of 124 (Value.int .u64 (x : Int)); refine (ox.out _).mono ?_; rintro e w' ⟨rfl, rfl⟩)
      | (go_at_call_of 124 (Value.int .u64 (y : Int)); refine (oy.out _).mono ?_; rintro e w' ⟨rfl, rfl⟩))
    go_ret
    exact ⟨rfl, rfl⟩
end Go.Proofs.Ytkcckfpihpfbnaa
