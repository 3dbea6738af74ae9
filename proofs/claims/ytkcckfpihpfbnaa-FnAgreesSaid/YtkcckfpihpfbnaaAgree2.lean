/-
  Walks of AgreeOf: the tests ahead of the comparison.
  Conditions: as each theorem says.
-/
import Derived.Test.YtkcckfpihpfbnaaAgree
import Derived.Test.YtkcckfpihpfbnaaTab
import Derived.Test.YtkcckfpihpfbnaaCol
import Derived.Test.YtkcckfpihpfbnaaAttr
namespace Go.Proofs.Ytkcckfpihpfbnaa
open Go.RowKit
set_option linter.unusedVariables false

def modeB (mode : Int) : Bool := (mode == 0) || (mode == 1)
theorem l4mode (mode : Int) (w : World) : Calls Try.prog 90 #[.int .i64 mode] w fun e w' => e = .returned (.bool (modeB mode)) ∧ w = w' := by
  by_cases h0 : mode = 0 <;> by_cases h1 : mode = 1
  all_goals first | (exfalso; omega) | skip
  all_goals
    go_enter Try.func90, Try.ntmps90
    go_wp2
    go_ret
    exact ⟨ret_bool (by simp [modeB, *]), rfl⟩
theorem ismode (mode : Int) (w : World) : Calls Try.prog 75 #[.int .i64 mode] w fun e w' => e = .returned (.bool (modeB mode)) ∧ w = w' := by
  by_cases h0 : mode = 0 <;> by_cases h1 : mode = 1
  all_goals first | (exfalso; omega) | skip
  all_goals
    go_enter Try.func75, Try.ntmps75
    go_wp2
    go_ret
    exact ⟨ret_bool (by simp [modeB, *]), rfl⟩
set_option maxRecDepth 100000 in
theorem l4fine (m : Int) (A : Option Addr) (n c : Nat) (zss : List (List Int)) (mode : Int) (w : World) (h : RowsAt w w.heap.size A n zss) :
    Calls Try.prog 80 #[.agg #[.int .i64 m, .slice A n c], .int .i64 mode] w (RetVal w (.bool (isTabB m zss && modeB mode))) := by
  have h' : ∀ t, RowsAt (w.alloc (.cells #[.int .i64 m, .slice A n c] t)) (w.alloc (.cells #[.int .i64 m, .slice A n c] t)).heap.size A n zss := fun t => h.later (by go_grown)
  replace h' := hide h'
  clear h
  have e1 := hide (show ∀ b, isTabB m zss = b → (isTabB m zss && modeB mode) = (b && modeB mode) from fun b hb => by rw [hb])
  rcases hT : isTabB m zss with _ | _
  · replace hT := hide hT
    go_enter Try.func80, Try.ntmps80
    go_wp2_with (go_at_call 22; refine (specIsTab _ _ _ _ _ _ (h'.out _)).mono ?_; rintro e w1 ⟨rfl, hb1⟩; rw [hT.out])
    go_ret
    exact ⟨ret_bool (by simp), below_box hb1⟩
  · replace hT := hide hT
    go_enter Try.func80, Try.ntmps80
    go_wp2_with (first
      | (go_at_call 22; refine (specIsTab _ _ _ _ _ _ (h'.out _)).mono ?_; rintro e w1 ⟨rfl, hb1⟩; rw [hT.out])
      | (go_at_call 90; refine (l4mode _ _).mono ?_; rintro e w2 ⟨rfl, rfl⟩))
    go_ret
    exact ⟨ret_bool (by simp), below_box hb1⟩
def agrG (m : Int) (zss : List (List Int)) (mode i j : Int) : Bool := (isTabB m zss && modeB mode) && ((decide (0 ≤ i) && decide (i ≤ (zss.length : Int) - 1)) && (decide (0 ≤ j) && decide (j ≤ (zss.length : Int) - 1)))
/-- What AgreeOf answers. -/
def agrV (m : Int) (zss : List (List Int)) (mode i j : Int) : Int := bif agrG m zss mode i j then (agrN mode (zss.getD i.toNat []) (zss.getD j.toNat []) m.toNat : Int) else 0
theorem agrV_no {m : Int} {zss : List (List Int)} {mode i j : Int} (h : agrG m zss mode i j = false) : agrV m zss mode i j = 0 := by unfold agrV; rw [h]; rfl
set_option maxHeartbeats 1600000 in
set_option maxRecDepth 100000 in
theorem specAgr (m : Int) (A : Option Addr) (n c : Nat) (zss : List (List Int)) (mode i j : Int) (w : World) (h : RowsAt w w.heap.size A n zss) :
    Calls Try.prog 34 #[.agg #[.int .i64 m, .slice A n c], .int .i64 mode, .int .i64 i, .int .i64 j] w (RetVal w (.int .i64 (agrV m zss mode i j))) := by
  have lz := h.1
  have h' : ∀ t, RowsAt (w.alloc (.cells #[.int .i64 m, .slice A n c] t)) (w.alloc (.cells #[.int .i64 m, .slice A n c] t)).heap.size A n zss := fun t => h.later (by go_grown)
  replace h' := hide h'
  rcases hf : (isTabB m zss && modeB mode) with _ | _
  · have e := hide (agrV_no (m := m) (zss := zss) (mode := mode) (i := i) (j := j) (by unfold agrG; rw [hf]; rfl))
    replace hf := hide hf
    clear h
    go_enter Try.func34, Try.ntmps34
    go_wp2_with (go_at_call 80; refine (l4fine _ _ _ _ _ _ _ (h'.out _)).mono ?_; rintro e w1 ⟨rfl, hb1⟩; rw [hf.out])
    go_ret
    exact ⟨ret_int e.out.symm, below_box hb1⟩
  · have hT : isTabB m zss = true := by rw [Bool.and_eq_true] at hf; exact hf.1
    obtain ⟨m1, m5, m40, hlen⟩ := isTabB_m hT
    have hn40 : n ≤ 40 := by omega
    rcases hi : (decide (0 ≤ i) && decide (i ≤ (n : Int) - 1)) with _ | _
    · have e := hide (agrV_no (m := m) (zss := zss) (mode := mode) (i := i) (j := j) (by unfold agrG; rw [hf, lz, hi]; rfl))
      replace hf := hide hf
      replace hi := hide hi
      replace hlen := hide hlen
      replace lz := hide lz
      clear h hT
      go_enter Try.func34, Try.ntmps34
      go_wp2_with (first
        | (go_at_call 80; refine (l4fine _ _ _ _ _ _ _ (h'.out _)).mono ?_; rintro e w1 ⟨rfl, hb1⟩; rw [hf.out]; obtain ⟨k0, k1, hk, hb⟩ := box2 hb1)
        | (go_at_call_of 83 (Value.int .i64 i); refine (l1in i 0 ((n : Int) - 1) false _ hi.out).mono ?_; rintro e w2 ⟨rfl, rfl⟩))
      go_ret
      exact ⟨ret_int e.out.symm, hb⟩
    rcases hj : (decide (0 ≤ j) && decide (j ≤ (n : Int) - 1)) with _ | _
    · have e := hide (agrV_no (m := m) (zss := zss) (mode := mode) (i := i) (j := j) (by unfold agrG; rw [hf, lz, hi, hj]; rfl))
      replace hf := hide hf
      replace hi := hide hi
      replace hj := hide hj
      replace hlen := hide hlen
      replace lz := hide lz
      clear h hT
      go_enter Try.func34, Try.ntmps34
      go_wp2_with (first
        | (go_at_call 80; refine (l4fine _ _ _ _ _ _ _ (h'.out _)).mono ?_; rintro e w1 ⟨rfl, hb1⟩; rw [hf.out]; obtain ⟨k0, k1, hk, hb⟩ := box2 hb1)
        | (go_at_call_of 83 (Value.int .i64 j); refine (l1in j 0 ((n : Int) - 1) false _ hj.out).mono ?_; rintro e w2 ⟨rfl, rfl⟩)
        | (go_at_call_of 83 (Value.int .i64 i); refine (l1in i 0 ((n : Int) - 1) true _ hi.out).mono ?_; rintro e w2 ⟨rfl, rfl⟩))
      go_ret
      exact ⟨ret_int e.out.symm, hb⟩
    have hi0 : 0 ≤ i := by simp at hi; omega
    have hj0 : 0 ≤ j := by simp at hj; omega
    obtain ⟨i, rfl⟩ := Int.eq_ofNat_of_zero_le hi0
    obtain ⟨j, rfl⟩ := Int.eq_ofNat_of_zero_le hj0
    obtain ⟨m, rfl⟩ := Int.eq_ofNat_of_zero_le (show 0 ≤ m by omega)
    have hin : i < zss.length := by simp at hi; omega
    have hjn : j < zss.length := by simp at hj; omega
    obtain ⟨xs, hzi⟩ : ∃ xs, zss[i]? = some xs := ⟨_, List.getElem?_eq_getElem hin⟩
    obtain ⟨ys, hzj⟩ : ∃ ys, zss[j]? = some ys := ⟨_, List.getElem?_eq_getElem hjn⟩
    have gi : zss.getD i [] = xs := by rw [List.getD_eq_getElem?_getD, hzi]; rfl
    have gj : zss.getD j [] = ys := by rw [List.getD_eq_getElem?_getD, hzj]; rfl
    have li := hlen i _ hzi
    have lj := hlen j _ hzj
    have e := hide (show agrV m zss mode i j = (agrN mode xs ys m : Int) by rw [← gi, ← gj]; unfold agrV agrG; rw [hf, lz, hi, hj]; rfl)
    clear gi gj
    have hcall : ∀ W, Below w.heap.size w W → Calls Try.prog 82 #[.agg #[.int .i64 (m : Int), .slice A n c], .int .i64 mode, .int .i64 (i : Int), .int .i64 (j : Int)] W (RetVal W (.int .i64 (agrN mode xs ys m : Int))) := fun W hW =>
      l4agree m A n c zss mode i j _ _ W (h.later hW) (by omega) hzi hzj (by omega) (by omega)
    replace hcall := hide hcall
    replace hf := hide hf
    replace hi := hide hi
    replace hj := hide hj
    clear h hT hlen lz hzi hzj li lj
    go_enter Try.func34, Try.ntmps34
    go_wp2_with (first
      | (go_at_call 80; refine (l4fine _ _ _ _ _ _ _ (h'.out _)).mono ?_; rintro e w1 ⟨rfl, hb1⟩; rw [hf.out]; obtain ⟨k0, k1, hk, hb⟩ := box2 hb1)
      | (go_at_call 82; refine (hcall.out _ hb).mono ?_; rintro e w2 ⟨rfl, hb2⟩)
      | (go_at_call_of 83 (Value.int .i64 (i : Int)); refine (l1in i 0 ((n : Int) - 1) true _ hi.out).mono ?_; rintro e w2 ⟨rfl, rfl⟩)
      | (go_at_call_of 83 (Value.int .i64 (j : Int)); refine (l1in j 0 ((n : Int) - 1) true _ hj.out).mono ?_; rintro e w2 ⟨rfl, rfl⟩))
    go_ret
    exact ⟨ret_int e.out.symm, below_call hb hb2⟩
theorem agrG_parts {m : Int} {zss : List (List Int)} {mode i j : Int} (hT : isTabB m zss = true) (hm : modeB mode = true) (i0 : 0 ≤ i) (i1 : i < zss.length) (j0 : 0 ≤ j) (j1 : j < zss.length) : agrG m zss mode i j = true := by
  unfold agrG; rw [hT, hm]; simp; omega
set_option maxHeartbeats 1600000 in
set_option maxRecDepth 100000 in
theorem implAgr (m : Int) (A : Option Addr) (n c : Nat) (zss : List (List Int)) (mode i j : Int) (w : World) (h : RowsAt w w.heap.size A n zss) :
    Calls Try.prog 24 #[.agg #[.int .i64 m, .slice A n c], .int .i64 mode, .int .i64 i, .int .i64 j] w (RetVal w (.int .i64 (agrV m zss mode i j))) := by
  have lz := h.1
  have h' : ∀ t, RowsAt (w.alloc (.cells #[.int .i64 m, .slice A n c] t)) (w.alloc (.cells #[.int .i64 m, .slice A n c] t)).heap.size A n zss := fun t => h.later (by go_grown)
  replace h' := hide h'
  rcases hT : isTabB m zss with _ | _
  · have e := hide (agrV_no (m := m) (zss := zss) (mode := mode) (i := i) (j := j) (by unfold agrG; rw [hT]; rfl))
    replace hT := hide hT
    clear h
    go_enter Try.func24, Try.ntmps24
    go_wp2_with (go_at_call 74; refine (implIsTab _ _ _ _ _ _ (h'.out _)).mono ?_; rintro e w1 ⟨rfl, hb1⟩; rw [hT.out])
    go_ret
    exact ⟨ret_int e.out.symm, below_box hb1⟩
  rcases hm : modeB mode with _ | _
  · have e := hide (agrV_no (m := m) (zss := zss) (mode := mode) (i := i) (j := j) (by unfold agrG; rw [hT, hm]; rfl))
    replace hT := hide hT
    replace hm := hide hm
    clear h
    go_enter Try.func24, Try.ntmps24
    go_wp2_with (first
      | (go_at_call 74; refine (implIsTab _ _ _ _ _ _ (h'.out _)).mono ?_; rintro e w1 ⟨rfl, hb1⟩; rw [hT.out])
      | (go_at_call 75; refine (ismode _ _).mono ?_; rintro e w2 ⟨rfl, rfl⟩; rw [hm.out]))
    go_ret
    exact ⟨ret_int e.out.symm, below_box hb1⟩
  by_cases hbad : ¬ (0 ≤ i ∧ i < n ∧ 0 ≤ j ∧ j < n)
  · have e := hide (agrV_no (m := m) (zss := zss) (mode := mode) (i := i) (j := j) (by
      unfold agrG; rw [hT, hm, lz]; simp; omega))
    replace hT := hide hT
    replace hm := hide hm
    clear h
    have hn := rows_bound (h'.out 0)
    clear lz
    by_cases i0 : i < 0
    · have d0 : decide (i < 0) = true := by simpa using i0
      clear hbad
      go_enter Try.func24, Try.ntmps24
      go_wp2_with (first
        | (go_at_call 74; refine (implIsTab _ _ _ _ _ _ (h'.out _)).mono ?_; rintro e w1 ⟨rfl, hb1⟩; rw [hT.out]; obtain ⟨k0, k1, hk, hb⟩ := box2 hb1)
        | (go_at_call 75; refine (ismode _ _).mono ?_; rintro e w2 ⟨rfl, rfl⟩; rw [hm.out]))
      go_ret
      exact ⟨ret_int e.out.symm, hb⟩
    have d0 : decide (i < 0) = false := by simpa using i0
    by_cases i1 : (n : Int) ≤ i
    · have d1 : decide ((n : Int) ≤ i) = true := by simpa using i1
      clear hbad
      go_enter Try.func24, Try.ntmps24
      go_wp2_with (first
        | (go_at_call 74; refine (implIsTab _ _ _ _ _ _ (h'.out _)).mono ?_; rintro e w1 ⟨rfl, hb1⟩; rw [hT.out]; obtain ⟨k0, k1, hk, hb⟩ := box2 hb1)
        | (go_at_call 75; refine (ismode _ _).mono ?_; rintro e w2 ⟨rfl, rfl⟩; rw [hm.out]))
      go_ret
      exact ⟨ret_int e.out.symm, hb⟩
    have d1 : decide ((n : Int) ≤ i) = false := by simpa using i1
    by_cases j0 : j < 0
    · have d2 : decide (j < 0) = true := by simpa using j0
      clear hbad
      go_enter Try.func24, Try.ntmps24
      go_wp2_with (first
        | (go_at_call 74; refine (implIsTab _ _ _ _ _ _ (h'.out _)).mono ?_; rintro e w1 ⟨rfl, hb1⟩; rw [hT.out]; obtain ⟨k0, k1, hk, hb⟩ := box2 hb1)
        | (go_at_call 75; refine (ismode _ _).mono ?_; rintro e w2 ⟨rfl, rfl⟩; rw [hm.out]))
      go_ret
      exact ⟨ret_int e.out.symm, hb⟩
    have d2 : decide (j < 0) = false := by simpa using j0
    have j1 : (n : Int) ≤ j := by omega
    have d3 : decide ((n : Int) ≤ j) = true := by simpa using j1
    clear hbad
    go_enter Try.func24, Try.ntmps24
    go_wp2_with (first
        | (go_at_call 74; refine (implIsTab _ _ _ _ _ _ (h'.out _)).mono ?_; rintro e w1 ⟨rfl, hb1⟩; rw [hT.out]; obtain ⟨k0, k1, hk, hb⟩ := box2 hb1)
        | (go_at_call 75; refine (ismode _ _).mono ?_; rintro e w2 ⟨rfl, rfl⟩; rw [hm.out]))
    go_ret
    exact ⟨ret_int e.out.symm, hb⟩
  · have hgood : 0 ≤ i ∧ i < n ∧ 0 ≤ j ∧ j < n := Decidable.not_not.1 hbad
    obtain ⟨i0, i1, j0, j1⟩ := hgood
    obtain ⟨m1, m5, m40, hlen⟩ := isTabB_m hT
    have hG := agrG_parts hT hm i0 (by omega) j0 (by omega)
    obtain ⟨i, rfl⟩ := Int.eq_ofNat_of_zero_le i0
    obtain ⟨j, rfl⟩ := Int.eq_ofNat_of_zero_le j0
    obtain ⟨m, rfl⟩ := Int.eq_ofNat_of_zero_le (show 0 ≤ m by omega)
    have hin : i < n := by omega
    have hjn : j < n := by omega
    have hn := rows_bound (h'.out 0)
    replace hT := hide hT
    replace hm := hide hm
    replace hlen := hide hlen
    clear hbad i0 i1 j0 j1 h
    go_enter Try.func24, Try.ntmps24
    go_wp2_with (first
      | (go_at_call 74; refine (implIsTab _ _ _ _ _ _ (h'.out _)).mono ?_; rintro e w1 ⟨rfl, hb1⟩; rw [hT.out]; obtain ⟨k0, k1, hk, hb⟩ := box2 hb1; have h2 := (h'.out _).later hb1; obtain ⟨b, o, xs, A1, c1, rfl, hbb, hz1, hc1, hr1⟩ := at_row h2 hin; obtain ⟨b', o', ys, A2, c2, e2, hbb2, hz2, hc2, hr2⟩ := at_row h2 hjn; cases e2)
      | (go_at_call 75; refine (ismode _ _).mono ?_; rintro e w2 ⟨rfl, rfl⟩; rw [hm.out]))
    have li : xs.length = m := by have := hlen.out _ _ hz1; omega
    have lj : ys.length = m := by have := hlen.out _ _ hz2; omega
    rw [li] at hc1 hr1
    rw [lj] at hc2 hr2
    have gi : zss.getD i [] = xs := by rw [List.getD_eq_getElem?_getD, hz1]; rfl
    have gj : zss.getD j [] = ys := by rw [List.getD_eq_getElem?_getD, hz2]; rfl
    have e := hide (show agrV m zss mode i j = (agrN mode xs ys m : Int) by rw [← gi, ← gj]; unfold agrV; rw [hG]; rfl)
    have hcall : ∀ q, Calls Try.prog 76 #[.int .i64 mode, .slice A1 m c1, .slice A2 m c2] (w1.drewN q) fun e w'' => e = .returned (.int .i64 (agrN mode xs ys m : Int)) ∧ ∃ m, w'' = w1.drewN m := fun q =>
      Calls.quiet_of (implAgree m A1 A2 c1 c2 mode xs ys (w1.drewN q) hr1 hr2 (by omega))
    replace hcall := hide hcall
    replace h2 := hide h2
    clear gi gj hr1 hr2 hz1 hz2 hG li lj lz hlen
    go_quiet ((go_at_call 76; exact hcall.out _))
    go_wp2_with fail
    go_ret
    exact ⟨ret_int e.out.symm, below_drewN hb _⟩
end Go.Proofs.Ytkcckfpihpfbnaa
