/-
  Draws of lists of numbers.
  Conditions: as each theorem says.
-/
import Derived.Test.YtkcckfpihpfbnaaDraw3
namespace Go.Proofs.Ytkcckfpihpfbnaa
open Go.RowKit
set_option linter.unusedVariables false

theorem grown_new {w w1 w2 : World} {r row : Option Nat} (h : w.grownBy w1 r) (k : w1.grownBy w2 row) (hrow : ∀ b, row = some b → w.heap.size ≤ b) : w.grownBy w2 r :=
  ⟨k.os.trans h.os, k.tape.trans h.tape, k.output.trans h.output, Nat.le_trans h.size k.size, fun i hi hne => (k.block i (Nat.lt_of_lt_of_le hi h.size) (fun e => by have := hrow i e.symm; omega)).trans (h.block i hi hne)⟩
theorem grown_below {w w1 w2 : World} {r : Option Nat} (h : w.grownBy w1 r) (k : Below w1.heap.size w1 w2) : w.grownBy w2 r :=
  ⟨k.os.trans h.os, k.tape.trans h.tape, k.output.trans h.output, Nat.le_trans h.size k.size, fun i hi hne => (k.block i (Nat.lt_of_lt_of_le hi h.size)).trans (h.block i hi hne)⟩
/-- A cursor's block is another than that of a row of numbers. -/
theorem CurAt.ne {w : World} {g B B' e n c m : Nat} {A : Option Addr} {zs : List Int} {v : Value} {xs : List Value} (h : CurAt w g B A n c zs) (ho : w.ownsRow B' e 1 v m xs) (he : e ≠ 94) : v.ownBlock = none ∨ v.ownBlock ≠ some g := by
  obtain ⟨⟨i, H, _, h2⟩, _, _⟩ := h
  exact own_types ho h2 he
theorem CurAt.other {w w' : World} {g B B' e n c m : Nat} {A : Option Addr} {zs : List Int} {v : Value} {xs : List Value} (h : CurAt w g B A n c zs) (ho : w.ownsRow B' e 1 v m xs) (he : e ≠ 94) (hB : B ≤ B') (hg : w.grownBy w' v.ownBlock) : CurAt w' g B A n c zs := by
  refine h.kept hg ?_ (fun k hk => Nat.le_trans hB (ho.lt k hk).1)
  rcases h.ne ho he with hh | hh
  · rw [hh]; exact fun e => by cases e
  · exact hh
theorem CurAt.base {w : World} {g B n c : Nat} {A : Option Addr} {zs : List Int} (h : CurAt w g B A n c zs) : B ≤ w.heap.size := by
  obtain ⟨⟨i, H, _, h2⟩, _, _⟩ := h
  have := h2.lt g rfl
  omega
/-- A list of numbers, drawn. -/
def RetL (m : Nat) (w : World) (g B : Nat) (A : Option Addr) (n c : Nat) (zs : List Int) (e : Ending) (w' : World) : Prop :=
  ∃ (A' : Option Addr) (N d : Nat) (xs : List Int), e = .returned (.slice A' N d) ∧ w'.ownsRow w.heap.size 3 1 (.slice A' N d) N (xs.map (Value.int .i64)) ∧ N ≤ m ∧ CurAt w' g B A n c zs ∧ w.grownBy w' (some g)
set_option maxHeartbeats 1600000 in
set_option maxRecDepth 100000 in
theorem l4list (g B : Nat) (A : Option Addr) (n c : Nat) (zs : List Int) (w : World) (hc : CurAt w g B A n c zs) :
    Calls Try.prog 86 #[.pointer (some ⟨g, 0, none⟩)] w (RetL 8 w g B A n c zs) := by
  have hBw := hc.base
  have hca : CurAt (w.alloc (.cells #[] 3)) g B A n c zs := hc.below ((Below.refl _ _).alloc (Nat.le_refl _) _)
  have hst : (w.alloc (.cells #[] 3)).ownsRow w.heap.size 3 1 (.slice (some ⟨w.heap.size, 0, none⟩) 0 0) 0 (([] : List Int).map (Value.int .i64)) := own_start w _
  have hga := World.grownBy_alloc w (.cells #[] 3) (some g)
  replace hc := hide hc
  go_enter Try.func86, Try.ntmps86
  go_wp2_with fail
  refine (l1below g B A n c zs 7 _ hca).mono ?_
  rintro e w1 ⟨v, rfl, ⟨t, rfl, ht⟩, hc1, hg1⟩
  have ht7 : (t : Int) < 7 := ht (by omega)
  have hst1 := hst.kept hg1 (hca.ne hst (by decide))
  have hgr := hga.trans hg1
  replace ht := hide ht
  replace hca := hide hca
  replace hst := hide hst
  clear hg1 hga
  go_wp2_with fail
  go_loopw [3, 4, 5] (fun out i _ wr => ∃ (k N d : Nat) (A' : Option Addr) (xs : List Int), k ≤ t ∧ i = .int .i64 (k : Int) ∧ out = .slice A' N d ∧ wr.ownsRow w.heap.size 3 1 (.slice A' N d) N (xs.map (Value.int .i64)) ∧ N + k ≤ 7 ∧ CurAt wr g B A n c zs ∧ w.grownBy wr (some g)) (fun _ i _ _ => (intOf i).toNat)
  case atStart => exact ⟨t, 0, 0, _, [], by omega, rfl, rfl, hst1, by omega, hc1, hgr⟩
  case round =>
    clear hst1 hc1 hgr
    obtain ⟨k, N, d, A', xs, hk, rfl, rfl, hown, hN, hcr, hg⟩ := hrel
    have hsz := hg.size
    rcases Nat.eq_zero_or_pos k with h0 | h0
    · subst h0
      replace hown' := hide hown
      clear hown
      go_wp2_with fail
      refine (l1once g B A n c zs 14 _ hcr).mono ?_
      rintro e w2 ⟨v, rfl, ⟨b, rfl⟩, hc2, hg2⟩
      have hown2 := hown'.out.kept hg2 (hcr.ne hown'.out (by decide))
      have hgr2 := hg.trans hg2
      replace hcr := hide hcr
      rcases b with _ | _
      · replace hown2 := hide hown2
        replace hc2 := hide hc2
        go_wp2_with fail
        go_ret
        exact ⟨A', N, d, xs, rfl, hown2.out, by omega, hc2.out, hgr2⟩
      · go_wp2_with fail
        refine (l2any g B A n c zs _ hc2).mono ?_
        rintro e w3 ⟨v, rfl, ⟨y, rfl⟩, hc3, hg3⟩
        have hown3 := hown2.kept hg3 (hc2.ne hown2 (by decide))
        have hgr3 := hgr2.trans hg3
        have hs3 := hgr3.size
        replace hc2 := hide hc2
        replace hown2 := hide hown2
        go_wp2_with (at_builtin; refine wpList_push elemInt rfl (.tmp 21) (.tmp 24) w3 (.int .i64 y) rfl w.heap.size (.slice A' N d) N _ rfl rfl hown3 rfl (by omega) (by omega) ?_; intro A4 c4 w4 hown4 hg4 hat4)
        have hgr4 := grown_new hgr3 hg4 (fun b hb => (hown3.lt b hb).1)
        have hc4 := hc3.other hown3 (by decide) hBw hg4
        replace hc3 := hide hc3
        replace hc4 := hide hc4
        clear hat4
        go_wp2_with fail
        go_ret
        exact ⟨A4, N + 1, c4, xs ++ [y], rfl, by rw [List.map_append]; exact hown4, by omega, hc4.out, hgr4⟩
    · have d1 : decide ((0 : Int) < (k : Int)) = true := by simp; omega
      have d1' : decide (0 < k) = true := by simp; omega
      obtain ⟨k, rfl⟩ : ∃ q, k = q + 1 := ⟨k - 1, by omega⟩
      replace hown' := hide hown
      clear hown
      go_wp2_with fail
      refine (l1below g B A n c zs 32 _ hcr).mono ?_
      rintro e w2 ⟨v, rfl, ⟨x, rfl, hx⟩, hc2, hg2⟩
      have hown2 := hown'.out.kept hg2 (hcr.ne hown'.out (by decide))
      have hgr2 := hg.trans hg2
      have hs2 := hgr2.size
      replace hcr := hide hcr
      replace hx := hide hx
      go_wp2_with (at_builtin; refine wpList_push elemInt rfl (.tmp 15) (.tmp 17) w2 (.int .i64 (x : Int)) rfl w.heap.size (.slice A' N d) N _ rfl rfl hown2 rfl (by omega) (by omega) ?_; intro A4 c4 w4 hown4 hg4 hat4)
      have hgr4 := grown_new hgr2 hg4 (fun b hb => (hown2.lt b hb).1)
      have hc4 := hc2.other hown2 (by decide) hBw hg4
      replace hc2 := hide hc2
      replace hc4 := hide hc4
      clear hat4
      go_wp2_with fail
      go_roundw
      case rel => exact ⟨k, N + 1, c4, A4, xs ++ [(x : Int)], by omega, by go_num, rfl, by rw [List.map_append]; exact hown4, by omega, hc4.out, hgr4⟩
      case measure => simp [intOf]
set_option maxRecDepth 100000 in
theorem drawMax (A : Option Addr) (n c : Nat) (zs : List Int) (w : World) (hr : Reads w w.heap.size A n (zs.map (Value.int .u8))) (hz : ∀ z ∈ zs, 0 ≤ z ∧ z ≤ 255) (hnb : n ≤ 1048576) :
    Calls Try.prog 25 #[.slice A n c] w fun e w' => ∃ (A' : Option Addr) (N d : Nat) (xs : List Int), e = .returned (.slice A' N d) ∧ w'.ownsRow w.heap.size 3 1 (.slice A' N d) N (xs.map (Value.int .i64)) ∧ N ≤ 8 ∧ Below w.heap.size w w' := by
  replace hz := hide hz
  go_enter Try.func25, Try.ntmps25
  go_wp2_with fail
  refine (l1new A n c zs _ hr hz.out hnb).mono ?_
  rintro e w1 ⟨g, rfl, hc1, hb1⟩
  go_wp2_with fail
  refine (l4list g _ A n c zs _ hc1).mono ?_
  rintro e w2 ⟨A', N, d, xs, rfl, hown, hN, hc2, hg2⟩
  have hb2 := below_cur hb1 hc1 hg2
  replace hown := hide (own_more hown hb1.size)
  replace hc2 := hide hc2
  go_wp2_with fail
  go_ret
  exact ⟨A', N, d, xs, rfl, hown.out, hN, hb2⟩
set_option maxRecDepth 100000 in
theorem drawCells (A : Option Addr) (n c : Nat) (zs : List Int) (w : World) (hr : Reads w w.heap.size A n (zs.map (Value.int .u8))) (hz : ∀ z ∈ zs, 0 ≤ z ∧ z ≤ 255) (hnb : n ≤ 1048576) :
    Calls Try.prog 28 #[.slice A n c] w fun e w' => ∃ x y z : Int, e = .returned (.tuple #[.int .i64 x, .int .i64 y, .int .i64 z]) ∧ Below w.heap.size w w' := by
  replace hz := hide hz
  go_enter Try.func28, Try.ntmps28
  go_wp2_with fail
  refine (l1new A n c zs _ hr hz.out hnb).mono ?_
  rintro e w1 ⟨g, rfl, hc1, hb1⟩
  go_wp2_with fail
  refine (l1below g _ A n c zs 4 _ hc1).mono ?_
  rintro e w2 ⟨v, rfl, ⟨x, rfl, hx⟩, hc2, hg2⟩
  have hb2 := below_cur hb1 hc1 hg2
  have hx4 : (x : Int) < 4 := hx (by omega)
  replace hx := hide hx
  go_wp2_with fail
  refine (l1below g _ A n c zs 4 _ hc2).mono ?_
  rintro e w3 ⟨v, rfl, ⟨y, rfl, hy⟩, hc3, hg3⟩
  have hb3 := below_cur hb2 hc2 hg3
  have hy4 : (y : Int) < 4 := hy (by omega)
  replace hy := hide hy
  go_wp2_with fail
  refine (l1below g _ A n c zs 4 _ hc3).mono ?_
  rintro e w4 ⟨v, rfl, ⟨z, rfl, hz4⟩, hc4, hg4⟩
  have hb4 := below_cur hb3 hc3 hg4
  have hzz : (z : Int) < 4 := hz4 (by omega)
  replace hz4 := hide hz4
  go_wp2_with fail
  refine bodyPost_ret (v := .tuple #[.int .i64 ((x : Int) - 1), .int .i64 ((y : Int) - 1), .int .i64 ((z : Int) - 1)]) (by simp [results, Try.results28, go_sem]) rfl ?_
  exact ⟨_, _, _, rfl, hb4⟩
end Go.Proofs.Ytkcckfpihpfbnaa
