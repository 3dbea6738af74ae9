/-
  Walks of DecodeVarint, in the program and in the reference.
  Conditions: the string has at most 1048576 bytes.
-/
import Derived.Test.YthhigkeplgabcaaVarP
namespace Go.Proofs.Ythhigkeplgabcaa
open Go.RowKit
set_option linter.unusedVariables false

/-- The pair as a result. -/
def decVV (r : Nat × Nat) : Value := .tuple #[.int .i64 (r.1 : Int), .int .i64 (r.2 : Int)]

set_option maxHeartbeats 1600000 in
set_option maxRecDepth 100000 in
theorem implDecV (l : List UInt8) (w : World) (hl : l.length ≤ 1048576) : Calls Try.prog 35 #[str l] w fun e w' => e = .returned (decVV (decV l)) ∧ w = w' := by
  go_enter Try.func35, Try.ntmps35
  go_wp2_with fail
  go_loop [4, 5] (fun n i => ∃ (k N : Nat), k ≤ 7 ∧ k ≤ l.length ∧ i = .int .i64 (k : Int) ∧ n = .int .i64 (N : Int) ∧ N = valL (l.take k) ∧ ∀ j, j < k → 128 ≤ (l[j]?.getD 0).toNat) (fun _ i => 7 - (intOf i).toNat)
  case atStart => exact ⟨0, 0, by omega, by omega, rfl, rfl, rfl, fun j hj => absurd hj (by omega)⟩
  case round =>
    obtain ⟨k, N, hk, hkl, rfl, rfl, hN, hno⟩ := hrel
    by_cases hlt : k < l.length ∧ k < 7
    · obtain ⟨hlt, h7⟩ := hlt
      have hv := valL_take l k hlt
      have hbN : N ≤ 4398046511103 := by
        have := valL_bound (l.take k) 6 (by rw [List.length_take]; omega)
        rw [hN]; omega
      have hd : (decide ((k : Int) < l.length) && decide ((k : Int) < 7)) = true := by simp; omega
      obtain ⟨b, hb⟩ : ∃ b, b = l[k]?.getD 0 := ⟨_, rfl⟩
      have e1 : l[k] = b := by rw [hb, List.getElem?_eq_getElem hlt]; rfl
      have e2 : l[k]?.getD 0 = b := hb.symm
      clear hb
      rw [e2] at hv
      have hb2 := u8_lt b
      have hX : (b.toNat : Int) % 128 * 2 ^ (7 * k) = ((b.toNat % 128 * 128 ^ k : Nat) : Int) := by
        rw [Int.natCast_mul, Int.natCast_pow, Int.pow_mul]; rfl
      have hXb : b.toNat % 128 * 128 ^ k ≤ 562949953421311 := by
        have h1 : 128 ^ k ≤ 128 ^ 6 := Nat.pow_le_pow_right (by omega) (by omega)
        have h2 : b.toNat % 128 * 128 ^ k ≤ 127 * 128 ^ 6 := Nat.mul_le_mul (by omega) h1
        exact Nat.le_trans h2 (by decide)
      generalize hX' : b.toNat % 128 * 128 ^ k = X at hX hXb hv
      clear hX'
      replace hno := hide hno
      replace hN := hide hN
      replace hv := hide hv
      replace e2 := hide e2
      go_wp2
      · have h0 : ((b.toNat : Int) == 0) = true := by assumption
        have hk0 : 0 < k := by assumption
        go_ret2
        refine ⟨?_, rfl⟩
        rw [stop_zero hno.out (by rw [e2.out]; have := beq_iff_eq.1 h0; omega) hk0]
        rfl
      · have h0 : ((b.toNat : Int) == 0) = false := by assumption
        go_ret2
        refine ⟨?_, rfl⟩
        rw [decV_at h7 hlt ⟨hno.out, by rw [e2.out]; omega, .inr (by rw [e2.out]; have := beq_eq_false_iff_ne.1 h0; omega)⟩, hv.out, ← hN.out]
        rfl
      · go_ret2
        refine ⟨?_, rfl⟩
        rw [decV_at h7 hlt ⟨hno.out, by rw [e2.out]; omega, .inl (by omega)⟩, hv.out, ← hN.out]
        rfl
      · go_round
        case rel => exact ⟨k + 1, N + X, by omega, by omega, by go_num, by go_num, by rw [hv.out, hN.out], fun j hj => by
          rcases Nat.lt_or_ge j k with h | h
          · exact hno.out j h
          · obtain rfl : j = k := by omega
            rw [e2.out]; omega⟩
        case measure => simp [intOf]; omega
    · have hn := hide (stop_none hno (by omega))
      by_cases h1 : k < l.length
      · have hd : decide ((k : Int) < 7) = false := by simp; omega
        clear hN hno hlt
        go_wp2
        go_ret2
        exact ⟨by rw [hn.out]; rfl, rfl⟩
      · clear hN hno hlt
        go_wp2
        go_ret2
        exact ⟨by rw [hn.out]; rfl, rfl⟩

set_option maxHeartbeats 1600000 in
set_option maxRecDepth 100000 in
theorem specDecV (l : List UInt8) (w : World) (hl : l.length ≤ 1048576) : Calls Try.prog 34 #[str l] w (RetVal w (decVV (decV l))) := by
  go_enter Try.func34, Try.ntmps34
  go_wp2_with fail
  go_loopw [4, 5, 6] (fun kk _ _ wr => ∃ (q i : Nat), q = i + 1 ∧ i ≤ 7 ∧ i ≤ l.length ∧ kk = .int .i64 (q : Int) ∧ (∀ j, j < i → ¬ Stops l j) ∧ Below w.heap.size w wr) (fun kk _ _ _ => (8 - intOf kk).toNat)
  case atStart => exact ⟨1, 0, rfl, by omega, by omega, rfl, fun j hj => absurd hj (by omega), Below.refl _ _⟩
  case round =>
    obtain ⟨kq, k, hkq, hk, hkl, rfl, hno, hb⟩ := hrel
    replace hno := hide hno
    have hkq1 : kq ≤ k + 1 := by omega
    have hkq2 : k + 1 ≤ kq := by omega
    clear hkq
    by_cases hlt : k < l.length ∧ k < 7
    · obtain ⟨hlt, h7⟩ := hlt
      have hd : decide ((kq : Int) ≤ 7) = true := by simp; omega
      have hd2 : decide ((kq : Int) ≤ l.length) = true := by simp; omega
      go_wp2
      obtain ⟨wo, rfl⟩ : ∃ wo : World, wo = wr := ⟨_, rfl⟩
      go_loop [5, 6] (fun n i => ∃ (q N : Nat) (z : Int), q ≤ k + 1 ∧ i = .int .i64 z ∧ z = (q : Int) - 1 ∧ n = .int .i64 (N : Int) ∧ N = valL ((l.take (k + 1)).drop q)) (fun _ i => (intOf i + 1).toNat)
      case atStart => exact ⟨k + 1, 0, _, by omega, rfl, by omega, rfl, by rw [List.drop_of_length_le (by rw [List.length_take]; omega)]; rfl⟩
      case round =>
        obtain ⟨q, N, z, hq, rfl, hz, rfl, hN⟩ := hrel
        by_cases hz0 : 0 ≤ z
        · obtain ⟨i, rfl⟩ : ∃ i, q = i + 1 := ⟨q - 1, by omega⟩
          obtain rfl : z = (i : Int) := by omega
          clear hz hz0
          have hil : i < l.length := by omega
          have hv := valL_drop l i (k + 1) (by omega) (by omega)
          have hbN : N ≤ 4398046511103 := by
            have := valL_bound ((l.take (k + 1)).drop (i + 1)) 6 (by rw [List.length_drop, List.length_take]; omega)
            rw [hN]; omega
          obtain ⟨b, hb'⟩ : ∃ b, b = l[i]?.getD 0 := ⟨_, rfl⟩
          have e1 : l[i] = b := by rw [hb', List.getElem?_eq_getElem hil]; rfl
          rw [← hb'] at hv
          clear hb'
          have hb2 := u8_lt b
          replace hN := hide hN
          replace hv := hide hv
          go_wp2
          go_round
          case rel => exact ⟨i, N * 128 + b.toNat % 128, _, by omega, rfl, rfl, by go_num, by rw [hv.out, ← hN.out]; omega⟩
          case measure => simp [intOf]
        · obtain rfl : q = 0 := by omega
          rw [List.drop_zero] at hN
          clear hz hq
          have hvt := var_take l k hlt h7
          rw [← hN] at hvt
          have hbN : N ≤ 562949953421311 := by
            have := valL_bound (l.take (k + 1)) 7 (by rw [List.length_take]; omega)
            rw [hN]; omega
          replace hN := hide hN
          have hsl := fun X => str_slice_to (P := Try.prog) 9 l .i64 (kq : Int) Try.underlying9 (by omega) (by omega) X
          rw [show ((kq : Int)).toNat = k + 1 from by omega] at hsl
          rcases hq : (varL (N : Int) == l.take (k + 1)) with _ | _
          · have hns : ¬ Stops l k := fun h => by have := hvt.2 h; rw [hq] at this; cases this
            replace hns := hide hns
            replace hvt := hide hvt
            go_wp2
            go_region_law (first | (go_simp; go_at_call 28; refine (specVar _ _).mono ?_; rintro e w3 ⟨rfl, hb3⟩))
            all_goals
              have hbb := hb.drew.trans (hb3.mono hb.size)
              go_wp2
              go_roundw
              case rel => exact ⟨kq + 1, k + 1, by omega, by omega, by omega, by go_num, fun j hj => by
                rcases Nat.lt_or_ge j k with h | h
                · exact hno.out j h
                · obtain rfl : j = k := by omega
                  exact hns.out, by assumption⟩
              case measure => simp [intOf]; omega
          · have hns : Stops l k := hvt.1 hq
            have hn := hide (decV_at h7 hlt hns)
            replace hvt := hide hvt
            clear hns
            go_wp2
            go_region_law (first | (go_simp; go_at_call 28; refine (specVar _ _).mono ?_; rintro e w3 ⟨rfl, hb3⟩))
            all_goals
              have hbb := hb.drew.trans (hb3.mono hb.size)
              go_wp2
              go_ret2
              exact ⟨by rw [hn.out, ← hN.out]; exact ret_pair rfl (int_eq (by omega)), by assumption⟩
    · have hn := hide (decV_no (l := l) fun j h7 hl2 => hno.out j (by omega))
      by_cases h1 : k < 7
      · have hd : decide ((kq : Int) ≤ 7) = true := by simp; omega
        have hd2 : decide (kq ≤ l.length) = false := by simp; omega
        clear hno hlt
        go_wp2
        go_ret2
        exact ⟨by rw [hn.out]; rfl, hb⟩
      · have hd : decide ((kq : Int) ≤ 7) = false := by simp; omega
        clear hno hlt
        go_wp2
        go_ret2
        exact ⟨by rw [hn.out]; rfl, hb⟩
end Go.Proofs.Ythhigkeplgabcaa
