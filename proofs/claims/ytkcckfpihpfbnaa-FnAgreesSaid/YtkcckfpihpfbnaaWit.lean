/-
  The first pair of rows that breaks a dependency: the reference's search and the program's give the same.
  Conditions: as each theorem says.
-/
import Derived.Test.YtkcckfpihpfbnaaIsTab2
import Derived.Test.YtkcckfpihpfbnaaAgree2
import Derived.Test.YtkcckfpihpfbnaaDep
namespace Go.Proofs.Ytkcckfpihpfbnaa
open Go.RowKit
set_option linter.unusedVariables false

def andB : Bool := (List.range 32).all fun x => (List.range 32).all fun y => (insB (y : Int) (x : Int) == (bits BinOp.and IntKind.i64 (x : Int) (y : Int) == (y : Int)))
theorem andB_true : andB = true := by decide +kernel
theorem and_ins (x y : Nat) (hx : x < 32) (hy : y < 32) : (bits BinOp.and IntKind.i64 (x : Int) (y : Int) == (y : Int)) = insB (y : Int) (x : Int) := by
  have h := List.all_eq_true.1 (List.all_eq_true.1 andB_true x (List.mem_range.2 hx)) y (List.mem_range.2 hy)
  exact (beq_iff_eq.1 h).symm
def hasNB : Bool := (List.range 32).all fun x => (List.range 5).all fun y => ((!hasB (x : Int) y) == (bits BinOp.and IntKind.i64 ((x : Int) / 2 ^ y) 1 == 0))
theorem hasNB_true : hasNB = true := by decide +kernel
theorem no_has (x y : Nat) (hx : x < 32) (hy : y < 5) : (bits BinOp.and IntKind.i64 ((x : Int) / 2 ^ y) 1 == 0) = !hasB (x : Int) y := by
  have h := List.all_eq_true.1 (List.all_eq_true.1 hasNB_true x (List.mem_range.2 hx)) y (List.mem_range.2 hy)
  exact (beq_iff_eq.1 h).symm

/-- Whether rows i and k break the dependency. -/
def vioV (mode : Int) (zss : List (List Int)) (m L R i k : Nat) : Bool :=
  insB (L : Int) ((agrN mode (zss.getD i []) (zss.getD k []) m : Nat) : Int) && !hasB ((agrN mode (zss.getD i []) (zss.getD k []) m : Nat) : Int) R
/-- No pair before (i, k). -/
def NoBef (V : Nat → Nat → Bool) (n i k : Nat) : Prop := ∀ a b, a < b → b < n → (a < i ∨ (a = i ∧ b < k)) → V a b = false
def IsWit (V : Nat → Nat → Bool) (n : Nat) (x y : Int) (f : Bool) : Prop :=
  (∃ i k : Nat, x = i ∧ y = k ∧ f = true ∧ i < k ∧ k < n ∧ V i k = true ∧ NoBef V n i k) ∨ (x = -1 ∧ y = -1 ∧ f = false ∧ NoBef V n n n)
theorem IsWit.uniq {V : Nat → Nat → Bool} {n : Nat} {x y x' y' : Int} {f f' : Bool} (h : IsWit V n x y f) (h' : IsWit V n x' y' f') : x = x' ∧ y = y' ∧ f = f' := by
  rcases h with ⟨i, k, rfl, rfl, rfl, h1, h2, h3, h4⟩ | ⟨rfl, rfl, rfl, h4⟩ <;> rcases h' with ⟨i', k', rfl, rfl, rfl, g1, g2, g3, g4⟩ | ⟨rfl, rfl, rfl, g4⟩
  · have a1 : ¬ (i < i' ∨ (i = i' ∧ k < k')) := fun hh => by have := g4 i k h1 h2 hh; simp [h3] at this
    have a2 : ¬ (i' < i ∨ (i' = i ∧ k' < k)) := fun hh => by have := h4 i' k' g1 g2 hh; simp [g3] at this
    exact ⟨by omega, by omega, rfl⟩
  · have := g4 i k h1 h2 (by omega); simp [h3] at this
  · have := h4 i' k' g1 g2 (by omega); simp [g3] at this
  · exact ⟨rfl, rfl, rfl⟩
theorem IsWit.flag {V : Nat → Nat → Bool} {n : Nat} {x y : Int} {f : Bool} (h : IsWit V n x y f) : f = decide (0 ≤ x) := by
  rcases h with ⟨i, k, rfl, rfl, rfl, _⟩ | ⟨rfl, rfl, rfl, _⟩ <;> simp
theorem NoBef.zero (V : Nat → Nat → Bool) (n : Nat) : NoBef V n 0 0 := fun a b h1 h2 h => by omega
theorem NoBef.start {V : Nat → Nat → Bool} {n i k : Nat} (h : NoBef V n i k) (hk : n ≤ k) : NoBef V n (i + 1) 0 := fun a b h1 h2 h3 => h a b h1 h2 (by omega)
theorem NoBef.first {V : Nat → Nat → Bool} {n i : Nat} (h : NoBef V n i 0) : NoBef V n i (i + 1) := fun a b h1 h2 h3 => h a b h1 h2 (by omega)
theorem NoBef.step {V : Nat → Nat → Bool} {n i k : Nat} (h : NoBef V n i k) (hk : V i k = false) : NoBef V n i (k + 1) := fun a b h1 h2 h3 => by
  by_cases hh : a = i ∧ b = k
  · obtain ⟨rfl, rfl⟩ := hh; exact hk
  · exact h a b h1 h2 (by omega)
theorem NoBef.all {V : Nat → Nat → Bool} {n : Nat} (h : NoBef V n n 0) : NoBef V n n n := fun a b h1 h2 h3 => h a b h1 h2 (by omega)
/-- A call that returns the first pair. -/
def RetPair (w : World) (V : Nat → Nat → Bool) (n : Nat) (e : Ending) (w' : World) : Prop := ∃ x y f, IsWit V n x y f ∧ e = .returned (.tuple #[.int .i64 x, .int .i64 y]) ∧ Below w.heap.size w w'
set_option maxHeartbeats 1600000 in
set_option maxRecDepth 100000 in
theorem l6pair (m : Nat) (A : Option Addr) (n c : Nat) (zss : List (List Int)) (mode : Int) (L R : Nat) (w : World) (h : RowsAt w w.heap.size A n zss) (hm : m ≤ 5) (hl : ∀ (i : Nat) (zs : List Int), zss[i]? = some zs → zs.length = m) (hL : L < 32) (hR : R < 5) :
    Calls Try.prog 92 #[.agg #[.int .i64 (m : Int), .slice A n c], .int .i64 mode, .agg #[.int .i64 (L : Int), .int .i64 (R : Int)]] w (RetPair w (vioV mode zss m L R) n) := by
  have hn := rows_bound h
  have lz := hide h.1
  replace hl := hide hl
  go_enter Try.func92, Try.ntmps92
  go_wp2_with fail
  obtain ⟨wb, hwb⟩ : ∃ wb, wb = (w.alloc (.cells #[.int .i64 (m : Int), .slice A n c] 26)).alloc (.cells #[.int .i64 (L : Int), .int .i64 (R : Int)] 50) := ⟨_, rfl⟩
  have hbx : Below w.heap.size w wb := by rw [hwb]; go_grown
  have h' := h.later hbx
  have k0 : wb.cell? ⟨w.heap.size, 0, none⟩ = some (.int .i64 (m : Int)) := by rw [hwb, World.cell?_alloc_lt _ _ _ (by simp), World.cell?_alloc_at _ _ _ _ rfl]; rfl
  have k1 : wb.cell? ⟨w.heap.size, 1, none⟩ = some (.slice A n c) := by rw [hwb, World.cell?_alloc_lt _ _ _ (by simp), World.cell?_alloc_at _ _ _ _ rfl]; rfl
  have d0 : wb.cell? ⟨w.heap.size + 1, 0, none⟩ = some (.int .i64 (L : Int)) := by rw [hwb, World.cell?_alloc_at _ _ _ _ (by simp)]; rfl
  have d1 : wb.cell? ⟨w.heap.size + 1, 1, none⟩ = some (.int .i64 (R : Int)) := by rw [hwb, World.cell?_alloc_at _ _ _ _ (by simp)]; rfl
  have hwl : w.heap.size + 1 < wb.heap.size := by rw [hwb]; simp
  rw [← hwb]
  clear hwb h
  go_loopw [8, 9, 10] (fun i _ _ wr => ∃ k : Nat, k ≤ n ∧ i = .int .i64 (k : Int) ∧ Below wb.heap.size wb wr ∧ NoBef (vioV mode zss m L R) n k 0) (fun i _ _ _ => n - (intOf i).toNat)
  case atStart => exact ⟨0, by omega, rfl, Below.refl _ _, NoBef.zero _ _⟩
  case round =>
    obtain ⟨i, hi, rfl, hb, hno⟩ := hrel
    have k0' := cell_below hb k0 (by omega)
    have k1' := cell_below hb k1 (by omega)
    by_cases hlt : i < n
    · have d0' := cell_below hb d0 hwl
      have d1' := cell_below hb d1 hwl
      have hno1 := hno.first
      replace hno := hide hno
      go_wp2_with fail
      go_loopw [9, 10] (fun j _ wq => ∃ k : Nat, i < k ∧ k ≤ n ∧ j = .int .i64 (k : Int) ∧ Below wb.heap.size wb wq ∧ NoBef (vioV mode zss m L R) n i k) (fun j _ _ => n - (intOf j).toNat)
      case atStart => exact ⟨i + 1, by omega, by omega, by go_num, hb, hno1⟩
      case round =>
        clear hno1 hno k0' k1' d0' d1' hb
        obtain ⟨k, hik, hk, rfl, hb, hno⟩ := hrel
        have k0' := cell_below hb k0 (by omega)
        have k1' := cell_below hb k1 (by omega)
        have d0' := cell_below hb d0 hwl
        have d1' := cell_below hb d1 hwl
        by_cases hkl : k < n
        · have h2 := h'.later hb
          obtain ⟨b, o, xs, A1, c1, e1, hbb, hz1, hc1, hr1⟩ := at_row h2 hlt
          obtain ⟨b', o', ys, A2, c2, e2, hbb2, hz2, hc2, hr2⟩ := at_row h2 hkl
          have gx : zss.getD i [] = xs := by rw [List.getD_eq_getElem?_getD, hz1]; rfl
          have gy : zss.getD k [] = ys := by rw [List.getD_eq_getElem?_getD, hz2]; rfl
          have hlt32 : agrN mode xs ys m < 32 := Nat.lt_of_lt_of_le (agrN_lt mode xs ys m) (Nat.pow_le_pow_right (by omega) hm)
          have hcall := hide (l4agree m A n c zss mode i k xs ys wr h2 hm hz1 hz2 (hl.out _ _ hz1) (hl.out _ _ hz2))
          have hV : vioV mode zss m L R i k = (insB (L : Int) ((agrN mode xs ys m : Nat) : Int) && !hasB ((agrN mode xs ys m : Nat) : Int) R) := by unfold vioV; rw [gx, gy]
          obtain ⟨v, hv⟩ : ∃ v, agrN mode xs ys m = v := ⟨_, rfl⟩
          rw [hv] at hcall hV hlt32
          have t1 := and_ins v L hlt32 hL
          have t2 := no_has v R hlt32 hR
          clear hv gx gy hr1 hr2 hc1 hc2 hz1 hz2 e1 e2
          have hns : vioV mode zss m L R i k = false → NoBef (vioV mode zss m L R) n i (k + 1) := hno.step
          replace hns := hide hns
          have hno' := hide hno
          clear hno
          have hend : ∀ wz, Below wb.heap.size wr wz → Below wb.heap.size wb wz := fun wz hz => hb.trans hz
          replace hend := hide hend
          rcases hi1 : insB (L : Int) (v : Int) with _ | _
          · rw [hi1] at t1 hV
            clear t2 hi1
            replace hns := hide (hns.out hV)
            clear hV
            go_wp2_with (go_at_call 82; refine hcall.out.mono ?_; rintro e w1 ⟨rfl, hb1⟩; have q0 := cell_below hb1 d0' (by have := hb.size; omega); have q1 := cell_below hb1 d1' (by have := hb.size; omega))
            go_roundw
            case rel => exact ⟨k + 1, by omega, by omega, by go_num, hend.out _ (hb1.mono hb.size), hns.out⟩
            case measure => simp [intOf]; omega
          · rw [hi1] at t1 hV
            clear hi1
            rcases hi2 : hasB (v : Int) R with _ | _
            · rw [hi2] at t2 hV
              clear hi2 hns
              replace hV := hide hV
              go_wp2_with (go_at_call 82; refine hcall.out.mono ?_; rintro e w1 ⟨rfl, hb1⟩; have q0 := cell_below hb1 d0' (by have := hb.size; omega); have q1 := cell_below hb1 d1' (by have := hb.size; omega))
              refine bodyPost_ret (v := .tuple #[.int .i64 (i : Int), .int .i64 (k : Int)]) (by simp [results, Try.results92, go_sem]) rfl ?_
              exact ⟨i, k, true, .inl ⟨i, k, rfl, rfl, rfl, hik, hkl, hV.out, hno'.out⟩, rfl, hbx.trans ((hend.out _ (hb1.mono hb.size)).mono hbx.size)⟩
            · rw [hi2] at t2 hV
              clear hi2
              replace hns := hide (hns.out hV)
              clear hV
              go_wp2_with (go_at_call 82; refine hcall.out.mono ?_; rintro e w1 ⟨rfl, hb1⟩; have q0 := cell_below hb1 d0' (by have := hb.size; omega); have q1 := cell_below hb1 d1' (by have := hb.size; omega))
              go_roundw
              case rel => exact ⟨k + 1, by omega, by omega, by go_num, hend.out _ (hb1.mono hb.size), hns.out⟩
              case measure => simp [intOf]; omega
        · obtain rfl : k = n := by omega
          have hst := hide (hno.start (Nat.le_refl k))
          replace hno := hide hno
          go_wp2_with fail
          go_roundw
          case rel => exact ⟨i + 1, by omega, by go_num, hb, hst.out⟩
          case measure => simp [intOf]; omega
    · obtain rfl : i = n := by omega
      have hst := hide hno.all
      replace hno := hide hno
      go_wp2_with fail
      refine bodyPost_ret (v := .tuple #[.int .i64 (-1), .int .i64 (-1)]) (by simp [results, Try.results92, go_sem]) rfl ?_
      exact ⟨-1, -1, false, .inr ⟨rfl, rfl, rfl, hst.out⟩, rfl, hbx.trans (hb.mono hbx.size)⟩
end Go.Proofs.Ytkcckfpihpfbnaa
