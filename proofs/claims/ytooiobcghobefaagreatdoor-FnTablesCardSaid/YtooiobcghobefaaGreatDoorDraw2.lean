/-
  Draws of numbers.
  Conditions: as each theorem says.
-/
import Derived.Test.YtooiobcghobefaaGreatDoorDraw
namespace Go.Proofs.YtooiobcghobefaaGreatDoor
open Go.RowKit
set_option linter.unusedVariables false

theorem RetC.trans {V : Value → Prop} {w w1 w2 : World} {g B n c : Nat} {A : Option Addr} {zs : List Int} {e : Ending} (hg : w.grownBy w1 (some g)) (h : RetC V w1 g B A n c zs e w2) : RetC V w g B A n c zs e w2 := by
  obtain ⟨v, h1, h2, h3, h4⟩ := h
  exact ⟨v, h1, h2, h3, hg.trans h4⟩
/-- A cursor is as it was where its block is. -/
theorem CurAt.kept {w w' : World} {g B n c : Nat} {A : Option Addr} {zs : List Int} (h : CurAt w g B A n c zs) {row : Option Nat} (hg : w.grownBy w' row) (hne : row ≠ some g) (hB : ∀ k, row = some k → B ≤ k) : CurAt w' g B A n c zs := by
  obtain ⟨⟨i, H, h1, h2⟩, h3, h4⟩ := h
  have h0 := h2.lt g rfl
  exact ⟨⟨i, H, h1, h2.kept hg (.inr fun he => hne he.symm)⟩, h3.grown hg (by omega) hB, h4⟩
theorem CurAt.below {w w' : World} {g B n c : Nat} {A : Option Addr} {zs : List Int} (h : CurAt w g B A n c zs) (hb : Below w.heap.size w w') : CurAt w' g B A n c zs := by
  obtain ⟨⟨i, H, h1, h2⟩, h3, h4⟩ := h
  have h0 := h2.lt g rfl
  exact ⟨⟨i, H, h1, own_below h2 hb⟩, h3.below (hb.mono (by omega)), h4⟩
def IntV (v : Value) : Prop := ∃ x : Int, v = .int .i64 x
def BoolV (v : Value) : Prop := ∃ b : Bool, v = .bool b
def NatV (m : Int) (v : Value) : Prop := ∃ x : Nat, v = .int .i64 (x : Int) ∧ (0 < m → (x : Int) < m)
set_option maxHeartbeats 1600000 in
set_option maxRecDepth 100000 in
theorem l1below (g B : Nat) (A : Option Addr) (n c : Nat) (zs : List Int) (m : Int) (w : World) (hc : CurAt w g B A n c zs) :
    Calls Tryz.prog 37 #[.pointer (some ⟨g, 0, none⟩), .int .i64 m] w (RetC (NatV m) w g B A n c zs) := by
  by_cases h0 : m ≤ 0
  · have d0 : decide (m ≤ 0) = true := by simpa using h0
    replace hc := hide hc
    go_enter Tryz.func37, Tryz.ntmps37
    go_wp2_with fail
    go_ret
    exact ⟨_, rfl, ⟨0, rfl, fun h => by omega⟩, hc.out, grownR _ _⟩
  have d0 : decide (m ≤ 0) = false := by simpa using h0
  by_cases h1 : m ≤ 256
  · have d1 : decide (m ≤ 256) = true := by simpa using h1
    go_enter Tryz.func37, Tryz.ntmps37
    go_wp2_with fail
    refine (l1byte g B A n c zs _ hc).mono ?_
    rintro e w1 ⟨v, rfl, ⟨x, hx, rfl⟩, hc1, hg1⟩
    obtain ⟨y, hy⟩ : ∃ y : Nat, Int.tmod (x : Int) m = (y : Int) := ⟨(Int.tmod (x : Int) m).toNat, by have := Int.tmod_nonneg (b := m) (a := (x : Int)) (by omega); omega⟩
    have hym : (y : Int) < m := by have := Int.tmod_lt_of_pos (x : Int) (b := m) (by omega); omega
    have hw : IntKind.i64.wrap (Int.tmod (x : Int) m) = (y : Int) := by rw [hy]; exact IntWalk.i64_in _ (by omega)
    have hm0 : m ≠ 0 := by omega
    replace hc1 := hide hc1
    replace hc := hide hc
    go_wp2_with fail
    go_ret
    exact ⟨_, rfl, ⟨y, rfl, fun _ => hym⟩, hc1.out, hg1⟩
  have d1 : decide (m ≤ 256) = false := by simpa using h1
  go_enter Tryz.func37, Tryz.ntmps37
  go_wp2_with fail
  refine (l1byte g B A n c zs _ hc).mono ?_
  rintro e w1 ⟨v, rfl, ⟨x, hx, rfl⟩, hc1, hg1⟩
  go_wp2_with fail
  refine (l1byte g B A n c zs _ hc1).mono ?_
  rintro e w2 ⟨v, rfl, ⟨y, hy, rfl⟩, hc2, hg2⟩
  go_wp2_with fail
  refine (l1byte g B A n c zs _ hc2).mono ?_
  rintro e w3 ⟨v, rfl, ⟨z, hz, rfl⟩, hc3, hg3⟩
  go_wp2_with fail
  refine (l1byte g B A n c zs _ hc3).mono ?_
  rintro e w4 ⟨v, rfl, ⟨u, hu, rfl⟩, hc4, hg4⟩
  have hgr := ((hg1.trans hg2).trans hg3).trans hg4
  replace hc4 := hide hc4
  replace hgr := hide hgr
  clear hc hc1 hc2 hc3 hg1 hg2 hg3 hg4
  obtain ⟨t, ht⟩ : ∃ t : Nat, Int.tmod ((x : Int) * 16777216 + (y : Int) * 65536 + (z : Int) * 256 + (u : Int)) m = (t : Int) := ⟨_, (Int.toNat_of_nonneg (Int.tmod_nonneg (b := m) (a := (x : Int) * 16777216 + (y : Int) * 65536 + (z : Int) * 256 + (u : Int)) (by omega))).symm⟩
  have htm : (t : Int) < m := by have := Int.tmod_lt_of_pos ((x : Int) * 16777216 + (y : Int) * 65536 + (z : Int) * 256 + (u : Int)) (b := m) (by omega); omega
  have hm0 : m ≠ 0 := by omega
  go_wp2_with fail
  go_ret
  exact ⟨_, rfl, ⟨t, rfl, fun _ => htm⟩, hc4.out, hgr.out⟩
set_option maxRecDepth 100000 in
theorem l1once (g B : Nat) (A : Option Addr) (n c : Nat) (zs : List Int) (m : Int) (w : World) (hc : CurAt w g B A n c zs) :
    Calls Tryz.prog 35 #[.pointer (some ⟨g, 0, none⟩), .int .i64 m] w (RetC BoolV w g B A n c zs) := by
  go_enter Tryz.func35, Tryz.ntmps35
  go_wp2_with fail
  refine (l1below g B A n c zs m _ hc).mono ?_
  rintro e w1 ⟨v, rfl, ⟨x, rfl, hx⟩, hc1, hg1⟩
  replace hx := hide hx
  replace hc1 := hide hc1
  go_wp2_with fail
  go_ret
  exact ⟨_, rfl, ⟨_, rfl⟩, hc1.out, hg1⟩
set_option maxRecDepth 100000 in
theorem l1pick (g B : Nat) (A : Option Addr) (n c : Nat) (zs : List Int) (L : Option Addr) (m cl Bl : Nat) (xs : List Int) (w : World) (hc : CurAt w g B A n c zs) (hl : w.ownsRow Bl 3 1 (.slice L m cl) m (xs.map (Value.int .i64))) (h0 : 0 < m) :
    Calls Tryz.prog 49 #[.pointer (some ⟨g, 0, none⟩), .slice L m cl] w (RetC (fun v => ∃ x, x ∈ xs ∧ v = .int .i64 x) w g B A n c zs) := by
  have hm := (Reads.of_own hl).bound
  go_enter Tryz.func49, Tryz.ntmps49
  go_wp2_with fail
  refine (l1below g B A n c zs m _ hc).mono ?_
  rintro e w1 ⟨v, rfl, ⟨x, rfl, hx⟩, hc1, hg1⟩
  have hxm : x < m := by have := hx (by omega); omega
  have hne : (Value.slice L m cl).ownBlock = none ∨ (Value.slice L m cl).ownBlock ≠ some g := by
    obtain ⟨⟨i, H, _, h2⟩, _, _⟩ := hc
    exact own_types hl h2 (by decide)
  have hl1 := hl.kept hg1 hne
  obtain ⟨b, o, y, rfl, hbb, hy, hcy⟩ := at_int (Reads.of_own hl1) hxm
  replace hx := hide hx
  replace hc1 := hide hc1
  replace hy := hide hy
  replace hc := hide hc
  replace hl := hide hl
  replace hl1 := hide hl1
  clear hne
  go_wp2_with fail
  go_ret
  exact ⟨_, rfl, ⟨y, List.mem_of_getElem? hy.out, rfl⟩, hc1.out, hg1⟩
set_option maxHeartbeats 1600000 in
set_option maxRecDepth 100000 in
theorem l1new (A : Option Addr) (n c : Nat) (zs : List Int) (w : World) (hr : Reads w w.heap.size A n (zs.map (Value.int .u8))) (hz : ∀ z ∈ zs, 0 ≤ z ∧ z ≤ 255) (hnb : n ≤ 1048576) :
    Calls Tryz.prog 21 #[.slice A n c] w fun e w' => ∃ g, e = .returned (.pointer (some ⟨g, 0, none⟩)) ∧ CurAt w' g w.heap.size A n c zs ∧ Below w.heap.size w w' := by
  have hn := hr.bound
  replace hz := hide hz
  go_enter Tryz.func21, Tryz.ntmps21
  go_wp2_with fail
  go_loopw [3, 4] (fun h i wr => ∃ (k : Nat) (H : Int), k ≤ n ∧ i = .int .i64 (k : Int) ∧ h = .int .i64 H ∧ w = wr) (fun _ i _ => n - (intOf i).toNat)
  case atStart => exact ⟨0, _, by omega, rfl, rfl, rfl⟩
  case round =>
    obtain ⟨k, H, hk, rfl, rfl, rfl⟩ := hrel
    by_cases hlt : k < n
    · by_cases h4 : k < 4000
      · obtain ⟨b, o, u, rfl, hbb, hu, hcb⟩ := hr.at_ hlt
        rw [List.getElem?_map] at hu
        obtain ⟨y, hy, rfl⟩ := Option.map_eq_some_iff.1 hu
        have hy255 := hz.out y (List.mem_of_getElem? hy)
        replace hu := hide hu
        replace hy := hide hy
        have hr' := hide hr
        go_wp2_with fail
        go_roundw
        case rel => exact ⟨k + 1, _, by omega, by go_num, rfl, trivial⟩
        case measure => simp [intOf]; omega
      · have d4 : decide ((k : Int) < 4000) = false := by simp; omega
        have d4' : decide (k < 4000) = false := by simp; omega
        go_wp2_with fail
        go_ret
        exact ⟨_, rfl, ⟨⟨0, H, by omega, World.ownsRow_lit (e := 64) (size := 1) w #[.slice A n c, .int .i64 0, .int .i64 H] 3 (Nat.le_refl _) (by unfold maxLen; omega) rfl⟩, (hr.alloc (Nat.le_refl _) _), hz.out⟩, (Below.refl _ _).alloc (Nat.le_refl _) _⟩
    · obtain rfl : k = n := by omega
      go_wp2_with fail
      go_ret
      exact ⟨_, rfl, ⟨⟨0, H, by omega, World.ownsRow_lit (e := 64) (size := 1) w #[.slice A k c, .int .i64 0, .int .i64 H] 3 (Nat.le_refl _) (by unfold maxLen; omega) rfl⟩, (hr.alloc (Nat.le_refl _) _), hz.out⟩, (Below.refl _ _).alloc (Nat.le_refl _) _⟩
end Go.Proofs.YtooiobcghobefaaGreatDoor
