/-
  Walks of ParseAttributes, in the program and in the reference.
  Conditions: as each theorem says.
-/
import Derived.Test.YtkcckfpihpfbnaaFmt
namespace Go.Proofs.Ytkcckfpihpfbnaa
open Go.RowKit
set_option linter.unusedVariables false

/-- The set that a text names, if it names one. -/
def parA (l : List UInt8) : Option Nat := (List.range 32).find? fun x => fmtA (x : Int) == l
def parV (l : List UInt8) : Value := match parA l with
  | some x => .tuple #[.int .i64 (x : Int), .bool true]
  | none => .tuple #[.int .i64 0, .bool false]
theorem parA_at {l : List UInt8} {k : Nat} (hk : k < 32) (h : (fmtA (k : Int) == l) = true) (hno : ∀ j, j < k → (fmtA (j : Int) == l) = false) : parA l = some k := by
  unfold parA
  rw [List.find?_range_eq_some]
  exact ⟨h, List.mem_range.2 hk, fun j hj => by rw [hno j hj]; rfl⟩
theorem parA_no {l : List UInt8} (hno : ∀ j : Nat, j < 32 → (fmtA (j : Int) == l) = false) : parA l = none := by
  unfold parA
  rw [List.find?_eq_none]
  intro j hj
  rw [hno j (List.mem_range.1 hj)]
  simp
theorem parV_at {l : List UInt8} {k : Nat} (hk : k < 32) (h : (fmtA (k : Int) == l) = true) (hno : ∀ j, j < k → (fmtA (j : Int) == l) = false) : parV l = .tuple #[.int .i64 (k : Int), .bool true] := by
  rw [parV, parA_at hk h hno]
theorem parV_no {l : List UInt8} (hno : ∀ j : Nat, j < 32 → (fmtA (j : Int) == l) = false) : parV l = .tuple #[.int .i64 0, .bool false] := by
  rw [parV, parA_no hno]
theorem parV_form (l : List UInt8) : ∃ (n : Int) (b : Bool), parV l = .tuple #[.int .i64 n, .bool b] := by
  unfold parV; split <;> exact ⟨_, _, rfl⟩
theorem no_succ {p : Nat → Prop} {k : Nat} (h : ∀ j, j < k → p j) (hk : p k) : ∀ j, j < k + 1 → p j := fun j hj => by
  rcases Nat.lt_or_ge j k with h1 | h1
  · exact h j h1
  · obtain rfl : j = k := by omega
    exact hk

set_option maxHeartbeats 800000 in
set_option maxRecDepth 100000 in
theorem implPar (l : List UInt8) (w : World) (hl : l.length ≤ 1048576) : Calls Try.prog 61 #[str l] w (RetVal w (parV l)) := by
  go_enter Try.func61, Try.ntmps61
  go_wp2_with fail
  go_loopw [4] (fun x wr => ∃ k : Nat, k ≤ 32 ∧ x = .int .i64 (k : Int) ∧ (∀ j, j < k → (fmtA (j : Int) == l) = false) ∧ Below w.heap.size w wr) (fun x _ => 32 - (intOf x).toNat)
  case atStart => exact ⟨0, by omega, rfl, fun j hj => absurd hj (by omega), Below.refl _ _⟩
  case round =>
    obtain ⟨k, hk, rfl, hno, hb⟩ := hrel
    replace hno := hide hno
    by_cases hlt : k < 32
    · rcases hq : (fmtA (k : Int) == l) with _ | _
      · have e := hide (no_succ hno.out hq)
        go_wp2_with (go_at_call 60; refine (implFmt _ _).mono ?_; rintro e w2 ⟨rfl, hb2⟩)
        go_roundw
        case rel => exact ⟨k + 1, by omega, by go_num, e.out, hb.trans (hb2.mono hb.size)⟩
        case measure => simp [intOf]; omega
      · have e := hide (parV_at hlt hq hno.out)
        go_wp2_with (go_at_call 60; refine (implFmt _ _).mono ?_; rintro e w2 ⟨rfl, hb2⟩)
        go_ret2
        exact ⟨by rw [e.out]; rfl, hb.trans (hb2.mono hb.size)⟩
    · obtain rfl : k = 32 := by omega
      have e := hide (parV_no hno.out)
      go_wp2_with fail
      go_ret2
      exact ⟨by rw [e.out]; rfl, hb⟩
end Go.Proofs.Ytkcckfpihpfbnaa
