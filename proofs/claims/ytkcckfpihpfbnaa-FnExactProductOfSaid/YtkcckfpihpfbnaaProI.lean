/-
  ProductOf of the program.
  Conditions: as each theorem says.
-/
import Derived.Test.YtkcckfpihpfbnaaProP
import Derived.Test.YtkcckfpihpfbnaaClsI
namespace Go.Proofs.Ytkcckfpihpfbnaa
open Go.RowKit
set_option linter.unusedVariables false

theorem rows_nilP (w : World) (B : Nat) : OwnRows w B none 0 0 [] := ⟨rfl, [], World.ownsRow_nil _ _ _ _, (fun i zs hi => by simp at hi), (fun i j u v _ hu => by simp at hu)⟩
set_option maxHeartbeats 3200000 in
set_option maxRecDepth 100000 in
theorem prodFn (A B : Option Addr) (n c m d : Nat) (p q : List (List Int)) (p1 p2 i k : Nat) (W : World) (h1 : RowsAt W W.heap.size A n p) (h2 : RowsAt W W.heap.size B m q)
    (c1 : W.cell? ⟨p1, 0, none⟩ = some (.slice A n c)) (c2 : W.cell? ⟨p2, 0, none⟩ = some (.slice B m d)) :
    Calls Try.prog 100 #[.int .i64 (i : Int), .int .i64 (k : Int), .pointer (some ⟨p1, 0, none⟩), .pointer (some ⟨p2, 0, none⟩)] W (RetVal W (.bool (proS p q i k))) := by
  have hS : proS p q i k = (decide (0 ≤ clsV p i) && decide (0 ≤ clsV q i) && (clsV p i == clsV p k) && (clsV q i == clsV q k)) := rfl
  have o1 := fun z => ownerof A n c p (i : Int) (W.drewN z) h1
  have o2 := fun z => ownerof B m d q (i : Int) (W.drewN z) h2
  have o3 := fun z => ownerof A n c p (k : Int) (W.drewN z) h1
  have o4 := fun z => ownerof B m d q (k : Int) (W.drewN z) h2
  generalize clsV p i = a at hS o1
  generalize clsV q i = b at hS o2
  generalize clsV p k = a2 at hS o3
  generalize clsV q k = b2 at hS o4
  generalize proS p q i k = V at hS
  have q1 : ∀ z, Calls Try.prog 101 #[.slice A n c, .int .i64 (i : Int)] (W.drewN z) fun e w'' => e = .returned (.int .i64 a) ∧ ∃ m, w'' = W.drewN m := fun z => Calls.quiet_of ((o1 z).mono fun e w' ⟨g1, g2⟩ => ⟨g1, 0, g2.symm⟩)
  have q2 : ∀ z, Calls Try.prog 101 #[.slice B m d, .int .i64 (i : Int)] (W.drewN z) fun e w'' => e = .returned (.int .i64 b) ∧ ∃ m, w'' = W.drewN m := fun z => Calls.quiet_of ((o2 z).mono fun e w' ⟨g1, g2⟩ => ⟨g1, 0, g2.symm⟩)
  replace q1 := hide q1
  replace q2 := hide q2
  replace o3 := hide o3
  replace o4 := hide o4
  clear o1 o2 h1 h2
  have fin : ∀ (e : Bool) (nq : Nat), e = V → RetVal W (.bool V) (.returned (.bool e)) (W.drewN nq) := fun e nq he => ⟨ret_bool he, below_drewN (Below.refl _ _) nq⟩
  rcases d1 : decide (0 ≤ a) with _ | _
  · rw [d1] at hS
    have hV := hide (show false = V by rw [hS]; rfl)
    clear hS
    go_enter Try.func100, Try.ntmps100
    go_wp2_with fail
    go_quiet ((first | (go_at_call_of 101 (Value.slice A n c); exact q1.out _) | (go_at_call_of 101 (Value.slice B m d); exact q2.out _)))
    go_wp2_with fail
    go_ret
    exact ⟨ret_bool hV.out, below_drewN (Below.refl _ _) _⟩
  rcases d2 : decide (0 ≤ b) with _ | _
  · rw [d1, d2] at hS
    have hV := hide (show false = V by rw [hS]; rfl)
    clear hS
    go_enter Try.func100, Try.ntmps100
    go_wp2_with fail
    go_quiet ((first | (go_at_call_of 101 (Value.slice A n c); exact q1.out _) | (go_at_call_of 101 (Value.slice B m d); exact q2.out _)))
    go_wp2_with fail
    go_ret
    exact ⟨ret_bool hV.out, below_drewN (Below.refl _ _) _⟩
  rcases d3 : (a == a2) with _ | _
  · rw [d1, d2, d3] at hS
    have hV := hide (show false = V by rw [hS]; rfl)
    clear hS
    go_enter Try.func100, Try.ntmps100
    go_wp2_with fail
    go_quiet ((first | (go_at_call_of 101 (Value.slice A n c); exact q1.out _) | (go_at_call_of 101 (Value.slice B m d); exact q2.out _)))
    go_wp2_with (go_at_call_of 101 (Value.slice A n c); refine (o3.out _).mono ?_; rintro e w2 ⟨rfl, rfl⟩)
    go_ret
    exact ⟨ret_bool hV.out, below_drewN (Below.refl _ _) _⟩
  have hV := hide (show (b == b2) = V by rw [hS, d1, d2, d3]; rfl)
  clear hS
  go_enter Try.func100, Try.ntmps100
  go_wp2_with fail
  go_quiet ((first | (go_at_call_of 101 (Value.slice A n c); exact q1.out _) | (go_at_call_of 101 (Value.slice B m d); exact q2.out _)))
  go_wp2_with (first
    | (go_at_call_of 101 (Value.slice A n c); refine (o3.out _).mono ?_; rintro e w2 ⟨rfl, rfl⟩)
    | (go_at_call_of 101 (Value.slice B m d); refine (o4.out _).mono ?_; rintro e w2 ⟨rfl, rfl⟩))
  go_ret
  exact ⟨ret_bool hV.out, below_drewN (Below.refl _ _) _⟩
set_option maxHeartbeats 3200000 in
set_option maxRecDepth 100000 in
theorem implPro (A B : Option Addr) (n c m d : Nat) (p q : List (List Int)) (rows : Int) (w : World) (hp : RowsAt w w.heap.size A n p) (hq : RowsAt w w.heap.size B m q) :
    Calls Try.prog 45 #[.slice A n c, .slice B m d, .int .i64 rows] w (RetRows w (proL p q rows)) := by
  have start : ∀ (Q : Prop), (∀ wb : World, Below w.heap.size w wb → w.heap.size + 1 < wb.heap.size → wb.cell? ⟨w.heap.size, 0, none⟩ = some (.slice A n c) → wb.cell? ⟨w.heap.size + 1, 0, none⟩ = some (.slice B m d) → wb = (w.alloc (.cells #[.slice A n c] 24)).alloc (.cells #[.slice B m d] 24) → Q) → Q := by
    intro Q hQ
    refine hQ _ ?_ ?_ ?_ ?_ rfl
    · go_grown
    · simp
    · rw [World.cell?_alloc_lt _ _ _ (by simp), World.cell?_alloc_at _ _ _ _ rfl]; rfl
    · rw [World.cell?_alloc_at _ _ _ _ (by simp)]; rfl
  replace start := hide start
  rcases h1 : prtB (rows - 1) rows p with _ | _
  · have e := hide (show proL p q rows = [] by unfold proL; rw [h1]; rfl)
    replace h1 := hide h1
    go_enter Try.func45, Try.ntmps45
    go_wp2_with fail
    refine start.out _ fun wb hb hs k0 k1 hwb => ?_
    have hp' := hp.later hb
    rw [← hwb]
    clear hwb hp hq
    refine (implIsP _ _ _ _ _ _ hp').mono ?_
    rintro e' w1 ⟨rfl, hb1⟩
    rw [h1.out]
    go_wp2_with fail
    go_ret
    exact ⟨none, 0, 0, rfl, by rw [e.out]; exact rows_nilP _ _, below_call hb hb1⟩
  rcases h2 : prtB (rows - 1) rows q with _ | _
  · have e := hide (show proL p q rows = [] by unfold proL; rw [h1, h2]; rfl)
    replace h1 := hide h1
    replace h2 := hide h2
    go_enter Try.func45, Try.ntmps45
    go_wp2_with fail
    refine start.out _ fun wb hb hs k0 k1 hwb => ?_
    have hp' := hp.later hb
    have hq' := hq.later hb
    rw [← hwb]
    clear hwb hp hq
    refine (implIsP _ _ _ _ _ _ hp').mono ?_
    rintro e' w1 ⟨rfl, hb1⟩
    rw [h1.out]
    replace k1 := cell_below hb1 k1 hs
    replace hq' := hq'.later hb1
    replace hb := below_call hb hb1
    clear hb1
    go_wp2_with fail
    refine (implIsP _ _ _ _ _ _ hq').mono ?_
    rintro e' w2 ⟨rfl, hb1⟩
    rw [h2.out]
    go_wp2_with fail
    go_ret
    exact ⟨none, 0, 0, rfl, by rw [e.out]; exact rows_nilP _ _, below_call hb hb1⟩
  obtain ⟨_, r0, r40⟩ := prtB_parts h1
  obtain ⟨N, rfl⟩ : ∃ N : Nat, rows = N := ⟨rows.toNat, by omega⟩
  have e := hide (show proL p q N = clsL (proS p q) N N by unfold proL; rw [h1, h2]; rfl)
  have n40 : N ≤ 40 := by omega
  have hP := hide (proS_per p q N)
  replace h1 := hide h1
  replace h2 := hide h2
  go_enter Try.func45, Try.ntmps45
  go_wp2_with fail
  refine start.out _ fun wb hb hs k0 k1 hwb => ?_
  have hp' := hp.later hb
  have hq' := hq.later hb
  rw [← hwb]
  clear hwb hp hq
  refine (implIsP _ _ _ _ _ _ hp').mono ?_
  rintro e' w1 ⟨rfl, hb1⟩
  rw [h1.out]
  replace k0 := cell_below hb1 k0 (by omega)
  replace k1 := cell_below hb1 k1 hs
  replace hp' := hp'.later hb1
  replace hq' := hq'.later hb1
  have hs1 := Nat.lt_of_lt_of_le hs hb1.size
  replace hb := below_call hb hb1
  clear hb1
  go_wp2_with fail
  refine (implIsP _ _ _ _ _ _ hq').mono ?_
  rintro e' w2 ⟨rfl, hb1⟩
  rw [h2.out]
  replace k0 := cell_below hb1 k0 (by omega)
  replace k1 := cell_below hb1 k1 hs1
  replace hp' := hp'.later hb1
  replace hq' := hq'.later hb1
  have hs2 := Nat.lt_of_lt_of_le hs1 hb1.size
  replace hb := below_call hb hb1
  clear hb1
  have hsame : ∀ (W : World) (i k : Nat), Below w2.heap.size w2 W → i < k → k < N → Calls Try.prog 100 #[.int .i64 (i : Int), .int .i64 (k : Int), .pointer (some ⟨w.heap.size, 0, none⟩), .pointer (some ⟨w.heap.size + 1, 0, none⟩)] W (RetVal W (.bool (proS p q i k))) := by
    intro W i k hW hik hk
    exact prodFn A B n c m d p q w.heap.size (w.heap.size + 1) i k W (hp'.later hW) (hq'.later hW) (cell_below hW k0 (by omega)) (cell_below hW k1 hs2)
  replace hsame := hide hsame
  go_wp2_with fail
  refine (classesOf_prod N n40 (proS p q) hP.out _ _ w2 hsame.out).mono ?_
  rintro e3 w3 ⟨A3, n3, c3, rfl, ho3, hb3⟩
  go_wp2_with fail
  go_ret
  exact ⟨A3, n3, c3, rfl, by rw [e.out]; exact ho3.more hb.size, below_call hb hb3⟩
end Go.Proofs.Ytkcckfpihpfbnaa
