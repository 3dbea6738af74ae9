/-
  Walks of ColumnOf, in the program and in the reference.
  Conditions: as each theorem says.
-/
import Derived.Test.YtooiobcghobefaaGreatDoorIsTab2
namespace Go.Proofs.YtooiobcghobefaaGreatDoor
open Go.RowKit
set_option linter.unusedVariables false

def colG (m : Int) (zss : List (List Int)) (j : Int) : Bool := isTabB m zss && (decide (0 ≤ j) && decide (j ≤ m - 1))
def colV (m : Int) (zss : List (List Int)) (j : Int) : List Int := if colG m zss j then zss.map fun zs => zs.getD j.toNat 0 else []
theorem colV_len (m : Int) (zss : List (List Int)) (j : Int) : (colV m zss j).length ≤ zss.length := by unfold colV; split <;> simp
theorem isTabB_m {m : Int} {zss : List (List Int)} (h : isTabB m zss = true) : 1 ≤ m ∧ m ≤ 5 ∧ zss.length ≤ 40 ∧ ∀ (k : Nat) (zs : List Int), zss[k]? = some zs → (zs.length : Int) = m := by
  unfold isTabB at h
  simp at h
  obtain ⟨⟨⟨h1, h2⟩, h3⟩, h4⟩ := h
  refine ⟨h1, h2, h3, fun k zs hk => ?_⟩
  have := h4 zs (List.mem_of_getElem? hk)
  unfold isRowB at this
  simp at this
  exact this.2
theorem col_succ {zss : List (List Int)} {k j : Nat} {zs : List Int} {x : Int} (h : zss[k]? = some zs) (hx : zs[j]? = some x) :
    ((zss.take (k + 1)).map fun zs => Value.int .i64 (zs.getD j 0)) = ((zss.take k).map fun zs => Value.int .i64 (zs.getD j 0)) ++ [.int .i64 x] := by
  rw [List.take_add_one, h]; simp [List.getD, hx]

set_option maxHeartbeats 1600000 in
set_option maxRecDepth 100000 in
theorem specCol_yes (m : Int) (A : Option Addr) (n c : Nat) (zss : List (List Int)) (j : Nat) (w : World) (h : RowsAt w w.heap.size A n zss) (hG : colG m zss j = true) :
    Calls Tryz.prog 19 #[.agg #[.int .i64 m, .slice A n c], .int .i64 (j : Int)] w (RetRow 3 w (zss.map fun zs => Value.int .i64 (zs.getD j 0))) := by
  have hn := rows_bound h
  have lz := h.1
  obtain ⟨hT, hin⟩ : isTabB m zss = true ∧ (decide ((0 : Int) ≤ j) && decide ((j : Int) ≤ m - 1)) = true := by simpa [colG] using hG
  obtain ⟨m1, m5, m40, hlen⟩ := isTabB_m hT
  have hjm : (j : Int) ≤ m - 1 := by simp at hin; omega
  replace hT := hide hT
  replace hin := hide hin
  replace hlen := hide hlen
  replace lz := hide lz
  clear hG
  go_enter Tryz.func19, Tryz.ntmps19
  go_wp2_with fail
  obtain ⟨wb, hwb⟩ : ∃ wb, wb = w.alloc (.cells #[.int .i64 m, .slice A n c] 26) := ⟨_, rfl⟩
  have hbx : Below w.heap.size w wb := by rw [hwb]; go_grown
  have h' := h.later hbx
  have k0 : wb.cell? ⟨w.heap.size, 0, none⟩ = some (.int .i64 m) := by rw [hwb, World.cell?_alloc_at _ _ _ _ rfl]; rfl
  have k1 : wb.cell? ⟨w.heap.size, 1, none⟩ = some (.slice A n c) := by rw [hwb, World.cell?_alloc_at _ _ _ _ rfl]; rfl
  have hk : w.heap.size < wb.heap.size := by rw [hwb]; simp
  have hsz : wb.heap.size = w.heap.size + 1 := by rw [hwb]; simp
  try rw [← hwb]
  clear hwb h
  go_loopw [5, 6] (fun l i wr => ∃ (k N d : Nat) (A' : Option Addr), k ≤ n ∧ i = .int .i64 (k : Int) ∧ l = .slice A' N d ∧ wr.ownsRow wb.heap.size 3 1 (.slice A' N d) N ((zss.take k).map fun zs => Value.int .i64 (zs.getD j 0)) ∧ Below wb.heap.size wb wr) (fun _ i _ => n - (intOf i).toNat)
  case atStart => exact ⟨0, 0, 0, _, by omega, rfl, rfl, by rw [← hsz]; exact own_start wb _, (Below.refl _ _).alloc (Nat.le_refl _) _⟩
  case round =>
    obtain ⟨k, N, d, A', hk', rfl, rfl, hown, hb⟩ := hrel
    have hN : N ≤ 40 := by have := own_len hown; rw [List.length_map, List.length_take] at this; omega
    replace k0 := cell_below hb k0 hk
    replace k1 := cell_below hb k1 hk
    have hk2 := Nat.lt_of_lt_of_le hk hb.size
    have h2 := h'.later hb
    have hbw := hbx.trans (hb.mono hbx.size)
    by_cases hlt : k < n
    · go_wp2_with (first
        | (go_at_call 9; refine (specIsTab _ _ _ _ _ _ h2).mono ?_; rintro e w1 ⟨rfl, hb1⟩; rw [hT.out]; replace k0 := cell_below hb1 k0 hk2; replace k1 := cell_below hb1 k1 hk2; replace h2 := h2.later hb1; obtain ⟨b, o, zs, A2, c2, rfl, hbb, hz1, hc1, hr⟩ := at_row h2 hlt; have hl := hlen.out _ _ hz1; have hjz : j < zs.length := (by omega); obtain ⟨b2, o2, x, e2, hb2, hx1, hc2⟩ := at_int hr hjz; subst e2; replace hown := own_below hown hb1; have hbw1 := hbw.trans (hb1.mono hbw.size); have hbb1 := hb.trans (hb1.mono hb.size); have hcs := hide (col_succ hz1 hx1); replace hz1 := hide hz1; replace hx1 := hide hx1; replace h2 := hide h2; replace hr := hide hr; replace hl := hide hl)
        | (go_at_call 31; refine (l1in _ _ _ true _ hin.out).mono ?_; rintro e w2 ⟨rfl, rfl⟩)
        | (at_builtin; refine wpList_push elemInt rfl (.tmp 26) (.tmp 35) w1 _ rfl wb.heap.size (.slice A' N d) N _ rfl rfl hown rfl (by omega) hbb1.size ?_; intro A' c' w3 hown' hg hat))
      go_roundw
      case rel => exact ⟨k + 1, N + 1, c', A', by omega, by go_num, rfl, by rw [hcs.out]; exact hown', below_push hbb1 hbb1.size hown hg⟩
      case measure => simp [intOf]; omega
    · obtain rfl : k = n := by omega
      go_wp2_with fail
      go_ret
      refine ⟨A', N, d, rfl, ?_, hbw⟩
      rw [List.take_of_length_le (by rw [lz.out]; exact Nat.le_refl _)] at hown
      exact own_more hown (by omega)
set_option maxHeartbeats 1600000 in
set_option maxRecDepth 100000 in
theorem specCol_no (m : Int) (A : Option Addr) (n c : Nat) (zss : List (List Int)) (j : Int) (w : World) (h : RowsAt w w.heap.size A n zss) (hG : colG m zss j = false) :
    Calls Tryz.prog 19 #[.agg #[.int .i64 m, .slice A n c], .int .i64 j] w (RetRow 3 w []) := by
  have hn := rows_bound h
  have hfin : isTabB m zss = false ∨ (isTabB m zss = true ∧ (decide ((0 : Int) ≤ j) && decide ((j : Int) ≤ m - 1)) = false) := by
    rcases hT : isTabB m zss with _ | _
    · exact .inl rfl
    · right; refine ⟨rfl, ?_⟩; simpa [colG, hT] using hG
  have hx : ∀ (t : TypeId) (w' : World), Below (w.alloc (.cells #[.int .i64 m, .slice A n c] t)).heap.size (w.alloc (.cells #[.int .i64 m, .slice A n c] t)) w' → Below w.heap.size w w' := fun t w' hb => below_box hb
  have hst : ∀ (t e : TypeId), ((w.alloc (.cells #[.int .i64 m, .slice A n c] t)).alloc (.cells #[] e)).ownsRow w.heap.size e 1 (.slice (some ⟨w.heap.size + 1, 0, none⟩) 0 0) 0 [] := fun t e => by
    have := own_start (w.alloc (.cells #[.int .i64 m, .slice A n c] t)) e
    rw [show (w.alloc (.cells #[.int .i64 m, .slice A n c] t)).heap.size = w.heap.size + 1 by simp] at this
    exact own_more this (by omega)
  replace hst := hide hst
  clear hG hx
  have h2 : ∀ (t e : TypeId), RowsAt ((w.alloc (.cells #[.int .i64 m, .slice A n c] t)).alloc (.cells #[] e)) ((w.alloc (.cells #[.int .i64 m, .slice A n c] t)).alloc (.cells #[] e)).heap.size A n zss := fun t e => h.later (by go_grown)
  replace h2 := hide h2
  clear h
  by_cases hz : 0 < n
  · rcases hfin with hT | ⟨hT, hin⟩
    · replace hT := hide hT
      go_enter Tryz.func19, Tryz.ntmps19
      go_wp2_with fail
      refine wp_loop_rounds 1 ?_
      rw [rounds_succ]
      go_wp2_with (go_at_call 9; refine (specIsTab _ _ _ _ _ _ (h2.out _ _)).mono ?_; rintro e w1 ⟨rfl, hb1⟩; rw [hT.out])
      go_ret
      exact ⟨_, 0, 0, rfl, own_below (hst.out _ _) hb1, below_box (below_box hb1)⟩
    · obtain ⟨m1, m5, _, _⟩ := isTabB_m hT
      replace hT := hide hT
      replace hin := hide hin
      go_enter Tryz.func19, Tryz.ntmps19
      go_wp2_with fail
      refine wp_loop_rounds 1 ?_
      rw [rounds_succ]
      go_wp2_with (first
        | (go_at_call 9; refine (specIsTab _ _ _ _ _ _ (h2.out _ _)).mono ?_; rintro e w1 ⟨rfl, hb1⟩; rw [hT.out]; obtain ⟨k0, k1, hk, hbw⟩ := box2 (below_box hb1))
        | (go_at_call 31; refine (l1in _ _ _ false _ hin.out).mono ?_; rintro e w2 ⟨rfl, rfl⟩))
      go_ret
      exact ⟨_, 0, 0, rfl, own_below (hst.out _ _) hb1, below_box (below_box hb1)⟩
  · obtain rfl : n = 0 := by omega
    go_enter Tryz.func19, Tryz.ntmps19
    go_wp2_with fail
    refine wp_loop_rounds 1 ?_
    rw [rounds_succ]
    go_wp2_with fail
    go_ret
    exact ⟨_, 0, 0, rfl, hst.out _ _, ((Below.refl _ _).alloc (Nat.le_refl _) _).alloc (by simp) _⟩
theorem specCol (m : Int) (A : Option Addr) (n c : Nat) (zss : List (List Int)) (j : Int) (w : World) (h : RowsAt w w.heap.size A n zss) :
    Calls Tryz.prog 19 #[.agg #[.int .i64 m, .slice A n c], .int .i64 j] w (RetRow 3 w ((colV m zss j).map (Value.int .i64))) := by
  rcases hG : colG m zss j with _ | _
  · rw [show colV m zss j = [] by simp [colV, hG]]; exact specCol_no m A n c zss j w h hG
  · have h0 : 0 ≤ j := by simp [colG] at hG; omega
    obtain ⟨i, rfl⟩ := Int.eq_ofNat_of_zero_le h0
    rw [show (colV m zss i).map (Value.int .i64) = zss.map fun zs => Value.int .i64 (zs.getD i 0) by simp [colV, hG, Function.comp_def]]
    exact specCol_yes m A n c zss i w h hG
set_option maxRecDepth 100000 in
theorem hasCol (m : Int) (v : Value) (j : Int) (w : World) : Calls Tryz.prog 47 #[.agg #[.int .i64 m, v], .int .i64 j] w (RetVal w (.bool (decide (0 ≤ j) && decide (j < m)))) := by
  by_cases h1 : 0 ≤ j <;> by_cases h2 : j < m
  all_goals
    go_enter Tryz.func47, Tryz.ntmps47
    go_wp2_with fail
    go_ret
    exact ⟨ret_bool (by simp [h1, h2]), by go_grown⟩
set_option maxHeartbeats 1600000 in
set_option maxRecDepth 100000 in
theorem implCol_no (m : Int) (A : Option Addr) (n c : Nat) (zss : List (List Int)) (j : Int) (w : World) (h : RowsAt w w.heap.size A n zss) (hG : colG m zss j = false) :
    Calls Tryz.prog 18 #[.agg #[.int .i64 m, .slice A n c], .int .i64 j] w (RetRow 3 w []) := by
  have hfin : isTabB m zss = false ∨ (isTabB m zss = true ∧ (decide ((0 : Int) ≤ j) && decide ((j : Int) < m)) = false) := by
    rcases hT : isTabB m zss with _ | _
    · exact .inl rfl
    · right; refine ⟨rfl, ?_⟩; simp [colG, hT] at hG ⊢; omega
  have hst : ∀ (t e : TypeId), ((w.alloc (.cells #[.int .i64 m, .slice A n c] t)).alloc (.cells #[] e)).ownsRow w.heap.size e 1 (.slice (some ⟨w.heap.size + 1, 0, none⟩) 0 0) 0 [] := fun t e => by
    have := own_start (w.alloc (.cells #[.int .i64 m, .slice A n c] t)) e
    rw [show (w.alloc (.cells #[.int .i64 m, .slice A n c] t)).heap.size = w.heap.size + 1 by simp] at this
    exact own_more this (by omega)
  replace hst := hide hst
  clear hG
  have h2 : ∀ (t e : TypeId), RowsAt ((w.alloc (.cells #[.int .i64 m, .slice A n c] t)).alloc (.cells #[] e)) ((w.alloc (.cells #[.int .i64 m, .slice A n c] t)).alloc (.cells #[] e)).heap.size A n zss := fun t e => h.later (by go_grown)
  replace h2 := hide h2
  clear h
  rcases hfin with hT | ⟨hT, hin⟩
  · replace hT := hide hT
    go_enter Tryz.func18, Tryz.ntmps18
    go_wp2_with (go_at_call 11; refine (implIsTab _ _ _ _ _ _ (h2.out _ _)).mono ?_; rintro e w1 ⟨rfl, hb1⟩; rw [hT.out])
    go_ret
    exact ⟨_, 0, 0, rfl, own_below (hst.out _ _) hb1, below_box (below_box hb1)⟩
  · replace hT := hide hT
    replace hin := hide hin
    go_enter Tryz.func18, Tryz.ntmps18
    go_wp2_with (first
      | (go_at_call 11; refine (implIsTab _ _ _ _ _ _ (h2.out _ _)).mono ?_; rintro e w1 ⟨rfl, hb1⟩; rw [hT.out]; obtain ⟨k0, k1, hk, hbw⟩ := box2 (below_box hb1))
      | (go_at_call 47; refine (hasCol _ _ _ _).mono ?_; rintro e w2 ⟨rfl, hb2⟩; rw [hin.out]))
    go_ret
    exact ⟨_, 0, 0, rfl, own_below (own_below (hst.out _ _) hb1) hb2, below_call (below_box (below_box hb1)) hb2⟩
set_option maxHeartbeats 1600000 in
set_option maxRecDepth 100000 in
theorem implCol_yes (m : Int) (A : Option Addr) (n c : Nat) (zss : List (List Int)) (j : Nat) (w : World) (h : RowsAt w w.heap.size A n zss) (hG : colG m zss j = true) :
    Calls Tryz.prog 18 #[.agg #[.int .i64 m, .slice A n c], .int .i64 (j : Int)] w (RetRow 3 w (zss.map fun zs => Value.int .i64 (zs.getD j 0))) := by
  have hn := rows_bound h
  have lz := h.1
  obtain ⟨hT, hin⟩ : isTabB m zss = true ∧ (decide ((0 : Int) ≤ j) && decide ((j : Int) < m)) = true := by
    simp [colG] at hG ⊢; exact ⟨hG.1, by omega⟩
  obtain ⟨m1, m5, m40, hlen⟩ := isTabB_m hT
  have hjm : (j : Int) ≤ m - 1 := by simp at hin; omega
  have hst : ∀ (t e : TypeId), ((w.alloc (.cells #[.int .i64 m, .slice A n c] t)).alloc (.cells #[] e)).ownsRow w.heap.size e 1 (.slice (some ⟨w.heap.size + 1, 0, none⟩) 0 0) 0 [] := fun t e => by
    have := own_start (w.alloc (.cells #[.int .i64 m, .slice A n c] t)) e
    rw [show (w.alloc (.cells #[.int .i64 m, .slice A n c] t)).heap.size = w.heap.size + 1 by simp] at this
    exact own_more this (by omega)
  replace hst := hide hst
  replace hT := hide hT
  replace hin := hide hin
  replace hlen := hide hlen
  replace lz := hide lz
  clear hG
  have h2 : ∀ (t e : TypeId), RowsAt ((w.alloc (.cells #[.int .i64 m, .slice A n c] t)).alloc (.cells #[] e)) ((w.alloc (.cells #[.int .i64 m, .slice A n c] t)).alloc (.cells #[] e)).heap.size A n zss := fun t e => h.later (by go_grown)
  replace h2 := hide h2
  have hh := hide h
  clear h
  go_enter Tryz.func18, Tryz.ntmps18
  go_wp2_with (first
      | (go_at_call 11; refine (implIsTab _ _ _ _ _ _ (h2.out _ _)).mono ?_; rintro e w1 ⟨rfl, hb1⟩; rw [hT.out]; obtain ⟨k0, k1, hk, hbw⟩ := box2 (below_box hb1))
      | (go_at_call 47; refine (hasCol _ _ _ _).mono ?_; rintro e w2 ⟨rfl, hb2⟩; rw [hin.out]; replace k0 := cell_below hb2 k0 hk; replace k1 := cell_below hb2 k1 hk))
  have hbw2 := below_call hbw hb2
  have hst3 := own_below (own_below (hst.out _ _) hb1) hb2
  clear h2 hst hb1 hb2 k0 hbw
  go_loopw [5, 22] (fun l i wr => ∃ (k N d : Nat) (A' : Option Addr), k ≤ n ∧ i = .int .i64 (k : Int) ∧ l = .slice A' N d ∧ wr.ownsRow w.heap.size 3 1 (.slice A' N d) N ((zss.take k).map fun zs => Value.int .i64 (zs.getD j 0)) ∧ Below w.heap.size w wr) (fun _ i _ => n - (intOf i).toNat)
  case atStart => exact ⟨0, 0, 0, _, by omega, rfl, rfl, hst3, hbw2⟩
  case round =>
    obtain ⟨k, N, d, A', hk', rfl, rfl, hown, hb⟩ := hrel
    have hN : N ≤ 40 := by have := own_len hown; rw [List.length_map, List.length_take] at this; omega
    by_cases hlt : k < n
    · obtain ⟨b, o, zs, A2, c2, rfl, hbb, hz1, hc1, hr⟩ := at_row (hh.out.below hb) hlt
      have hl := hlen.out _ _ hz1
      have hjz : j < zs.length := by omega
      obtain ⟨b2, o2, x, e2, hb2, hx1, hc2⟩ := at_int hr hjz
      subst e2
      have hcs := hide (col_succ hz1 hx1)
      replace hz1 := hide hz1
      replace hx1 := hide hx1
      replace hr := hide hr
      replace hl := hide hl
      go_wp2_with (at_builtin; refine wpList_push elemInt rfl (.tmp 26) (.tmp 31) wr _ rfl w.heap.size (.slice A' N d) N _ rfl rfl hown rfl (by omega) hb.size ?_; intro A' c' w3 hown' hg hat)
      go_roundw
      case rel => exact ⟨k + 1, N + 1, c', A', by omega, by go_num, rfl, by rw [hcs.out]; exact hown', below_push hb hb.size hown hg⟩
      case measure => simp [intOf]; omega
    · obtain rfl : k = n := by omega
      rw [List.take_of_length_le (by rw [lz.out]; exact Nat.le_refl _)] at hown
      go_wp2_with fail
      go_ret
      exact ⟨A', N, d, rfl, hown, hb⟩
theorem implCol (m : Int) (A : Option Addr) (n c : Nat) (zss : List (List Int)) (j : Int) (w : World) (h : RowsAt w w.heap.size A n zss) :
    Calls Tryz.prog 18 #[.agg #[.int .i64 m, .slice A n c], .int .i64 j] w (RetRow 3 w ((colV m zss j).map (Value.int .i64))) := by
  rcases hG : colG m zss j with _ | _
  · rw [show colV m zss j = [] by simp [colV, hG]]; exact implCol_no m A n c zss j w h hG
  · have h0 : 0 ≤ j := by simp [colG] at hG; omega
    obtain ⟨i, rfl⟩ := Int.eq_ofNat_of_zero_le h0
    rw [show (colV m zss i).map (Value.int .i64) = zss.map fun zs => Value.int .i64 (zs.getD i 0) by simp [colV, hG, Function.comp_def]]
    exact implCol_yes m A n c zss i w h hG
end Go.Proofs.YtooiobcghobefaaGreatDoor
