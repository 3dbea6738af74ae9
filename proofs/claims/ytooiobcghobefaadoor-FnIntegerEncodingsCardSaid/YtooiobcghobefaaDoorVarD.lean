/-
  Walks of DecodeVarint, in the program and in the reference.
  Conditions: the string has at most 1048576 bytes.
-/
import Derived.Test.YtooiobcghobefaaDoorVarP
namespace Go.Proofs.YtooiobcghobefaaDoor
open Go.RowKit
set_option linter.unusedVariables false

/-- The pair as a result. -/
def decVV (r : Nat × Nat) : Value := .tuple #[.int .i64 (r.1 : Int), .int .i64 (r.2 : Int)]

set_option maxHeartbeats 1600000 in
set_option maxRecDepth 100000 in
theorem implDecV (l : List UInt8) (w : World) (hl : l.length ≤ 1048576) : Calls Tryd.prog 31 #[str l] w fun e w' => e = .returned (decVV (decV l)) ∧ w = w' := by
  go_enter Tryd.func31, Tryd.ntmps31
  go_wp2_with fail
  go_loop [4, 5] (fun n i => ∃ (k N : Nat), k ≤ 7 ∧ k ≤ l.length ∧ i = .int .i64 (k : Int) ∧ n = .int .i64 (N : Int) ∧ N = valL (l.take k) ∧ ∀ j, j < k → 128 ≤ (l[j]?.getD 0).toNat) (fun _ i => 7 - (intOf i).toNat)
  case atStart => exact ⟨0, 0, by omega, by omega, rfl, rfl, rfl, fun j hj => absurd hj (by omega)⟩
  case round =>
    obtain ⟨k, N, hk, hkl, rfl, rfl, hN, hno⟩ := hrel
    by_cases hlt : k < l.length ∧ k < 7
    · obtain ⟨hlt, h7⟩ := hlt
      have hv := valL_take l k hlt
      have hbN : N ≤ 4398046511103 := by
        have := valL_bound (l.take k) 6 (by rw [List.length_take]; omega)
        rw [hN]; omega
      have hd : (decide ((k : Int) < l.length) && decide ((k : Int) < 7)) = true := by simp; omega
      obtain ⟨b, hb⟩ : ∃ b, b = l[k]?.getD 0 := ⟨_, rfl⟩
      have e1 : l[k] = b := by rw [hb, List.getElem?_eq_getElem hlt]; rfl
      have e2 : l[k]?.getD 0 = b := hb.symm
      clear hb
      rw [e2] at hv
      have hb2 := u8_lt b
      have hX : (b.toNat : Int) % 128 * 2 ^ (7 * k) = ((b.toNat % 128 * 128 ^ k : Nat) : Int) := by
        rw [Int.natCast_mul, Int.natCast_pow, Int.pow_mul]; rfl
      have hXb : b.toNat % 128 * 128 ^ k ≤ 562949953421311 := by
        have h1 : 128 ^ k ≤ 128 ^ 6 := Nat.pow_le_pow_right (by omega) (by omega)
        have h2 : b.toNat % 128 * 128 ^ k ≤ 127 * 128 ^ 6 := Nat.mul_le_mul (by omega) h1
        exact Nat.le_trans h2 (by decide)
      generalize hX' : b.toNat % 128 * 128 ^ k = X at hX hXb hv
      clear hX'
      replace hno := hide hno
      replace hN := hide hN
      replace hv := hide hv
      replace e2 := hide e2
      go_wp2
      · have h0 : ((b.toNat : Int) == 0) = true := by assumption
        have hk0 : 0 < k := by assumption
        go_ret2
        refine ⟨?_, rfl⟩
        rw [stop_zero hno.out (by rw [e2.out]; have := beq_iff_eq.1 h0; omega) hk0]
        rfl
      · have h0 : ((b.toNat : Int) == 0) = false := by assumption
        go_ret2
        refine ⟨?_, rfl⟩
        rw [decV_at h7 hlt ⟨hno.out, by rw [e2.out]; omega, .inr (by rw [e2.out]; have := beq_eq_false_iff_ne.1 h0; omega)⟩, hv.out, ← hN.out]
        rfl
      · go_ret2
        refine ⟨?_, rfl⟩
        rw [decV_at h7 hlt ⟨hno.out, by rw [e2.out]; omega, .inl (by omega)⟩, hv.out, ← hN.out]
        rfl
      · go_round
        case rel => exact ⟨k + 1, N + X, by omega, by omega, by go_num, by go_num, by rw [hv.out, hN.out], fun j hj => by
          rcases Nat.lt_or_ge j k with h | h
          · exact hno.out j h
          · obtain rfl : j = k := by omega
            rw [e2.out]; omega⟩
        case measure => simp [intOf]; omega
    · have hn := hide (stop_none hno (by omega))
      by_cases h1 : k < l.length
      · have hd : decide ((k : Int) < 7) = false := by simp; omega
        clear hN hno hlt
        go_wp2
        go_ret2
        exact ⟨by rw [hn.out]; rfl, rfl⟩
      · clear hN hno hlt
        go_wp2
        go_ret2
        exact ⟨by rw [hn.out]; rfl, rfl⟩

end Go.Proofs.YtooiobcghobefaaDoor