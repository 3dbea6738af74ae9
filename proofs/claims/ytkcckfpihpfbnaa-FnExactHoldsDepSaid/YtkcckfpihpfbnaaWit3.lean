/-
  WitnessOf and HoldsDep of the program.
  Conditions: as each theorem says.
-/
import Derived.Test.YtkcckfpihpfbnaaWit2
namespace Go.Proofs.Ytkcckfpihpfbnaa
open Go.RowKit
set_option linter.unusedVariables false

set_option maxHeartbeats 1600000 in
set_option maxRecDepth 100000 in
theorem implWit_no (m : Int) (A : Option Addr) (n c : Nat) (zss : List (List Int)) (mode L R : Int) (w : World) (h : RowsAt w w.heap.size A n zss) (hG : witG m zss mode L R = false) :
    Calls Try.prog 39 #[.agg #[.int .i64 m, .slice A n c], .int .i64 mode, .agg #[.int .i64 L, .int .i64 R]] w (RetWit w m zss mode L R) := by
  have hW : WitR m zss mode L R (-1) (-1) false := .inl ⟨hG, rfl, rfl, rfl⟩
  replace hG := hide hG
  replace hW := hide hW
  go_enter Try.func39, Try.ntmps39
  go_wp2_with fail
  refine (implAsked _ _ _ _ _ _ _ _ _ (h.later ?_)).mono ?_
  · go_grown
  rintro e w1 ⟨rfl, hb1⟩
  rw [hG.out]
  obtain ⟨k0, k1, hk, d0, d1, hd, hb⟩ := box22 hb1
  clear hb1
  go_wp2_with fail
  refine bodyPost_ret (v := .tuple #[.int .i64 (-1), .int .i64 (-1), .bool false]) (by simp [results, Try.results39, go_sem]) rfl ?_
  exact ⟨-1, -1, false, hW.out, rfl, hb⟩

set_option maxHeartbeats 3200000 in
set_option maxRecDepth 100000 in
theorem implWit_yes (m : Nat) (A : Option Addr) (n c : Nat) (zss : List (List Int)) (mode : Int) (L R : Nat) (w : World) (h : RowsAt w w.heap.size A n zss) (hG : witG m zss mode L R = true) (hm : m ≤ 5) (hl : ∀ (i : Nat) (zs : List Int), zss[i]? = some zs → zs.length = m) (hL : L < 32) (hR : R < 5) :
    Calls Try.prog 39 #[.agg #[.int .i64 (m : Int), .slice A n c], .int .i64 mode, .agg #[.int .i64 (L : Int), .int .i64 (R : Int)]] w (RetWit w m zss mode L R) := by
  have hn := rows_bound h
  have lz := hide h.1
  have hwit : ∀ x y f, IsWit (vioV mode zss m L R) n x y f → WitR m zss mode L R x y f := fun x y f hh => .inr ⟨hG, by rw [h.1]; exact hh⟩
  replace hl := hide hl
  replace hG := hide hG
  replace hwit := hide hwit
  go_enter Try.func39, Try.ntmps39
  go_wp2_with fail
  refine (implAsked _ _ _ _ _ _ _ _ _ (h.later ?_)).mono ?_
  · go_grown
  rintro e wb ⟨rfl, hb1⟩
  rw [hG.out]
  obtain ⟨k0, k1, hk, d0, d1, hd, hbx⟩ := box22 hb1
  have h' := h.later hbx
  clear hb1 h
  go_wp2_with fail
  go_loopw [9, 10, 11, 12, 21] (fun _ _ _ _ i wr => ∃ k : Nat, k ≤ n ∧ i = .int .i64 (k : Int) ∧ Below wb.heap.size wb wr ∧ NoBef (vioV mode zss m L R) n k 0) (fun _ _ _ _ i _ => n - (intOf i).toNat)
  case atStart => exact ⟨0, by omega, rfl, Below.refl _ _, NoBef.zero _ _⟩
  case round =>
    obtain ⟨i, hi, rfl, hb, hno⟩ := hrel
    by_cases hlt : i < n
    · have k0' := cell_below hb k0 hk
      have k1' := cell_below hb k1 hk
      have d0' := cell_below hb d0 hd
      have d1' := cell_below hb d1 hd
      have h2 := h'.later hb
      obtain ⟨b, o, xs, A1, c1, e1, hbb, hz1, hc1, hr1⟩ := at_row h2 hlt
      subst e1
      have hno1 := hno.first
      replace hno := hide hno
      have gx : zss.getD i [] = xs := by rw [List.getD_eq_getElem?_getD, hz1]; rfl
      have lx := hl.out _ _ hz1
      have hr1' : Reads wb wb.heap.size A1 xs.length (xs.map (Value.int .i64)) := by
        obtain ⟨b', o', xs', A1', c1', e1', hbb', hz1', hc1', hr1'⟩ := at_row h' hlt
        cases e1'
        rw [hz1] at hz1'
        cases hz1'
        have e3 : wr.cell? ⟨b, o + i, none⟩ = wb.cell? ⟨b, o + i, none⟩ := hb.cell hbb'
        rw [e3, hc1'] at hc1
        cases hc1
        exact hr1'
      clear hr1 h2
      replace hz1 := hide hz1
      replace gx := hide gx
      replace lx := hide lx
      go_wp2_with fail
      go_loopw [11, 12] (fun j _ wq => ∃ k : Nat, i < k ∧ k ≤ n ∧ j = .int .i64 (k : Int) ∧ Below wb.heap.size wb wq ∧ NoBef (vioV mode zss m L R) n i k) (fun j _ _ => n - (intOf j).toNat)
      case atStart => exact ⟨i + 1, by omega, by omega, by go_num, hb, hno1⟩
      case round =>
        clear hno1 hno k0' k1' d0' d1' hb hc1 hbb
        obtain ⟨k, hik, hk', rfl, hb, hno⟩ := hrel
        have k0' := cell_below hb k0 hk
        have k1' := cell_below hb k1 hk
        have d0' := cell_below hb d0 hd
        have d1' := cell_below hb d1 hd
        by_cases hkl : k < n
        · have h2 := h'.later hb
          obtain ⟨b', o', ys, A2, c2, e2, hbb2, hz2, hc2, hr2⟩ := at_row h2 hkl
          cases e2
          have gy : zss.getD k [] = ys := by rw [List.getD_eq_getElem?_getD, hz2]; rfl
          have ly := hl.out _ _ hz2
          have hr3 := (hr1'.below hb).more (B' := wr.heap.size) hb.size
          have hlt32 : agrN mode xs ys m < 32 := Nat.lt_of_lt_of_le (agrN_lt mode xs ys m) (Nat.pow_le_pow_right (by omega) hm)
          have hcall : Calls Try.prog 76 #[.int .i64 mode, .slice A1 xs.length c1, .slice A2 ys.length c2] wr (RetQuiet wr (.int .i64 ((agrN mode xs ys m : Nat) : Int))) := by
            rw [lx.out] at hr3
            rw [ly] at hr2
            have hh := implAgree m A1 A2 c1 c2 mode xs ys wr hr3 hr2 hm
            rw [lx.out, ly]
            exact hh
          have hV : vioV mode zss m L R i k = (insB (L : Int) ((agrN mode xs ys m : Nat) : Int) && !hasB ((agrN mode xs ys m : Nat) : Int) R) := by unfold vioV; rw [gx.out, gy]
          obtain ⟨v, hv⟩ : ∃ v, agrN mode xs ys m = v := ⟨_, rfl⟩
          rw [hv] at hcall hV hlt32
          replace hcall := hide hcall
          have hend := hide hb
          clear hv gy hr2 hr3 hz2 ly
          have hns : vioV mode zss m L R i k = false → NoBef (vioV mode zss m L R) n i (k + 1) := hno.step
          replace hns := hide hns
          have hno' := hide hno
          clear hno
          rcases hi1 : insB (L : Int) (v : Int) with _ | _
          · rw [hi1] at hV
            replace hns := hide (hns.out hV)
            clear hV
            have t1 := hide hi1
            have t2 := hide (rfl : hasB (v : Int) R = hasB (v : Int) R)
            clear hi1
            go_wp2_with fail
            refine hcall.out.mono ?_
            rintro e w1 ⟨rfl, z, hw1⟩
            obtain ⟨q0, q1, q2, q3⟩ : w1.cell? ⟨w.heap.size, 0, none⟩ = some (.int .i64 (m : Int)) ∧ w1.cell? ⟨w.heap.size, 1, none⟩ = some (.slice (some ⟨b, o, none⟩) n c) ∧ w1.cell? ⟨w.heap.size + 1, 0, none⟩ = some (.int .i64 (L : Int)) ∧ w1.cell? ⟨w.heap.size + 1, 1, none⟩ = some (.int .i64 (R : Int)) := by rw [hw1]; exact ⟨k0', k1', d0', d1'⟩
            replace hend := hide (show Below wb.heap.size wb w1 by rw [hw1]; exact below_drewN hb z)
            clear hw1
            go_wp2_with (first
              | (go_at_call 88; refine (inside_any _ _ _).mono ?_; rintro e w2 ⟨rfl, rfl⟩; rw [t1.out])
              | (go_at_call 79; refine (has_any _ R _ (by omega)).mono ?_; rintro e w2 ⟨rfl, rfl⟩; rw [t2.out]))
            go_roundw
            case rel => exact ⟨k + 1, by omega, by omega, by go_num, hend.out, hns.out⟩
            case measure => simp [intOf]; omega
          · rw [hi1] at hV
            have t1 := hide hi1
            clear hi1
            rcases hi2 : hasB (v : Int) R with _ | _
            · rw [hi2] at hV
              have t2 := hide hi2
              clear hi2 hns
              replace hV := hide hV
              go_wp2_with fail
              refine hcall.out.mono ?_
              rintro e w1 ⟨rfl, z, hw1⟩
              obtain ⟨q0, q1, q2, q3⟩ : w1.cell? ⟨w.heap.size, 0, none⟩ = some (.int .i64 (m : Int)) ∧ w1.cell? ⟨w.heap.size, 1, none⟩ = some (.slice (some ⟨b, o, none⟩) n c) ∧ w1.cell? ⟨w.heap.size + 1, 0, none⟩ = some (.int .i64 (L : Int)) ∧ w1.cell? ⟨w.heap.size + 1, 1, none⟩ = some (.int .i64 (R : Int)) := by rw [hw1]; exact ⟨k0', k1', d0', d1'⟩
              replace hend := hide (show Below wb.heap.size wb w1 by rw [hw1]; exact below_drewN hb z)
              clear hw1
              go_wp2_with (first
                | (go_at_call 88; refine (inside_any _ _ _).mono ?_; rintro e w2 ⟨rfl, rfl⟩; rw [t1.out])
                | (go_at_call 79; refine (has_any _ R _ (by omega)).mono ?_; rintro e w2 ⟨rfl, rfl⟩; rw [t2.out]))
              refine bodyPost_ret (v := .tuple #[.int .i64 (i : Int), .int .i64 (k : Int), .bool true]) (by simp [results, Try.results39, go_sem]) rfl ?_
              exact ⟨i, k, true, hwit.out _ _ _ (.inl ⟨i, k, rfl, rfl, rfl, hik, hkl, hV.out, hno'.out⟩), rfl, below_call hbx hend.out⟩
            · rw [hi2] at hV
              have t2 := hide hi2
              clear hi2
              replace hns := hide (hns.out hV)
              clear hV
              go_wp2_with fail
              refine hcall.out.mono ?_
              rintro e w1 ⟨rfl, z, hw1⟩
              obtain ⟨q0, q1, q2, q3⟩ : w1.cell? ⟨w.heap.size, 0, none⟩ = some (.int .i64 (m : Int)) ∧ w1.cell? ⟨w.heap.size, 1, none⟩ = some (.slice (some ⟨b, o, none⟩) n c) ∧ w1.cell? ⟨w.heap.size + 1, 0, none⟩ = some (.int .i64 (L : Int)) ∧ w1.cell? ⟨w.heap.size + 1, 1, none⟩ = some (.int .i64 (R : Int)) := by rw [hw1]; exact ⟨k0', k1', d0', d1'⟩
              replace hend := hide (show Below wb.heap.size wb w1 by rw [hw1]; exact below_drewN hb z)
              clear hw1
              go_wp2_with (first
                | (go_at_call 88; refine (inside_any _ _ _).mono ?_; rintro e w2 ⟨rfl, rfl⟩; rw [t1.out])
                | (go_at_call 79; refine (has_any _ R _ (by omega)).mono ?_; rintro e w2 ⟨rfl, rfl⟩; rw [t2.out]))
              go_roundw
              case rel => exact ⟨k + 1, by omega, by omega, by go_num, hend.out, hns.out⟩
              case measure => simp [intOf]; omega
        · obtain rfl : k = n := by omega
          have hst := hide (hno.start (Nat.le_refl k))
          replace hno := hide hno
          go_wp2_with fail
          go_roundw
          case rel => exact ⟨i + 1, by omega, by go_num, hb, hst.out⟩
          case measure => simp [intOf]; omega
    · obtain rfl : i = n := by omega
      have hst := hide hno.all
      replace hno := hide hno
      go_wp2_with fail
      refine bodyPost_ret (v := .tuple #[.int .i64 (-1), .int .i64 (-1), .bool false]) (by simp [results, Try.results39, go_sem]) rfl ?_
      exact ⟨-1, -1, false, hwit.out _ _ _ (.inr ⟨rfl, rfl, rfl, hst.out⟩), rfl, below_call hbx hb⟩
theorem implWit (m : Int) (A : Option Addr) (n c : Nat) (zss : List (List Int)) (mode L R : Int) (w : World) (h : RowsAt w w.heap.size A n zss) :
    Calls Try.prog 39 #[.agg #[.int .i64 m, .slice A n c], .int .i64 mode, .agg #[.int .i64 L, .int .i64 R]] w (RetWit w m zss mode L R) := by
  rcases hG : witG m zss mode L R with _ | _
  · exact implWit_no _ _ _ _ _ _ _ _ _ h hG
  · have hG' := hG
    unfold witG at hG'
    rw [Bool.and_eq_true, Bool.and_eq_true] at hG'
    obtain ⟨⟨hT, _⟩, hD⟩ := hG'
    obtain ⟨m1, m5, m40, hlen⟩ := isTabB_m hT
    obtain ⟨l, r, rfl, rfl, l32, r5⟩ := dep_nat hD m5
    obtain ⟨M, rfl⟩ : ∃ M : Nat, m = M := ⟨m.toNat, by omega⟩
    exact implWit_yes M A n c zss mode l r w h hG (by omega) (fun i zs hz => by have := hlen i zs hz; omega) l32 r5
set_option maxHeartbeats 1600000 in
set_option maxRecDepth 100000 in
theorem implHolds (m : Int) (A : Option Addr) (n c : Nat) (zss : List (List Int)) (mode L R : Int) (w : World) (h : RowsAt w w.heap.size A n zss) :
    Calls Try.prog 41 #[.agg #[.int .i64 m, .slice A n c], .int .i64 mode, .agg #[.int .i64 L, .int .i64 R]] w (RetHold w m zss mode L R) := by
  obtain ⟨G, hG⟩ : ∃ G, witG m zss mode L R = G := ⟨_, rfl⟩
  have hG' := hide hG
  clear hG
  go_enter Try.func41, Try.ntmps41
  go_wp2_with fail
  refine (implWit _ _ _ _ _ _ _ _ _ (h.later ?_)).mono ?_
  · go_grown
  rintro e w1 ⟨x, y, f, hW, rfl, hb1⟩
  replace hW := hide hW
  obtain ⟨k0, k1, hk, d0, d1, hd, hb⟩ := box22 hb1
  clear hb1
  go_wp2_with fail
  refine (implAsked _ _ _ _ _ _ _ _ _ (h.later hb)).mono ?_
  rintro e w2 ⟨rfl, hb2⟩
  rw [hG'.out]
  rcases G with _ | _
  · go_wp2_with fail
    go_ret
    exact ⟨x, y, f, hW.out, ret_bool (by rw [hG'.out]; rfl), below_call hb hb2⟩
  · go_wp2_with fail
    go_ret
    exact ⟨x, y, f, hW.out, ret_bool (by rw [hG'.out]; rfl), below_call hb hb2⟩
end Go.Proofs.Ytkcckfpihpfbnaa
