/-
  Walks of the reference's FormatInt and ParseInt.
  Conditions: as each theorem says.
-/
import Derived.Test.YtooiobcghobefaaDoorIta

namespace Go.Proofs.YtooiobcghobefaaDoor
open Go.RowKit Go.Lib
set_option linter.unusedVariables false
set_option linter.unusedSimpArgs false
theorem elemByteI : Elem Tryd.prog 44 5 (.int .u8 0) 1 := ⟨Tryd.underlying44, by kernel_rfl, rfl, by decide⟩

theorem ita_nonneg (u : Nat) : itoa (u : Int) = decDigits u := by unfold itoa; rw [if_neg (by omega)]; simp
theorem ita_neg (u : Nat) (h : 1 ≤ u) : itoa (-(u : Int)) = 45 :: decDigits u := by unfold itoa; rw [if_pos (by omega)]; simp
theorem rest_dec {u : Nat} (h : u ≠ 0) : fmtRest u = decDigits u := by unfold fmtRest; rw [if_neg h]
theorem rest_zero : fmtRest 0 = [] := rfl
theorem dec_len {u : Nat} (h : u ≤ 9223372036854775808) : (decDigits u).length ≤ 20 := by
  rw [decDigits_length]
  exact nDigits_le (Nat.lt_of_le_of_lt h (by decide)) (by omega)
set_option maxHeartbeats 1600000 in
set_option maxRecDepth 100000 in
theorem specItoa (n : Int) (w : World) (h0 : -9223372036854775808 ≤ n) (h1 : n ≤ 9223372036854775807) : Calls Tryd.prog 14 #[.int .i64 n] w (RetVal w (str (itoa n))) := by
  by_cases hz : n = 0
  · subst hz
    rw [itoa_zero]
    go_enter Tryd.func14, Tryd.ntmps14
    go_wp2_with fail
    go_ret
    exact ⟨rfl, Below.refl _ _⟩
  by_cases hs : 0 < n
  · obtain ⟨N, rfl⟩ : ∃ N : Nat, n = N := ⟨n.toNat, by omega⟩
    have hi := hide (ita_nonneg N)
    have hN : N ≠ 0 := by omega
    have hl := dec_len (u := N) (by omega)
    have hst := hide (rest_dec hN)
    have d0 : decide ((N : Int) < 0) = false := by simp
    have d1 : ((N : Int) == 0) = false := by simp; omega
    go_enter Tryd.func14, Tryd.ntmps14
    go_wp2_with fail
    go_loopw [0, 3, 5] (fun m o d wr => ∃ (v : Nat) (l : List UInt8), m = .int .i64 (v : Int) ∧ v ≤ 9223372036854775807 ∧ o = str l ∧ fmtRest v ++ l = decDigits N ∧ Below w.heap.size w wr) (fun m _ _ _ => (intOf m).natAbs)
    case atStart => exact ⟨N, [], rfl, by omega, rfl, by rw [List.append_nil, hst.out], Below.refl _ _⟩
    case round =>
      clear hst h0 h1 hz hs d0 d1 hN
      obtain ⟨v, l, rfl, hv, rfl, he, hb⟩ := hrel
      have hll : l.length ≤ 20 := by have := congrArg List.length he; rw [List.length_append] at this; omega
      replace he := hide he
      replace hl := hide hl
      by_cases hlt : v = 0
      · subst hlt
        go_wp2_with fail
        go_ret
        exact ⟨ret_str (by rw [hi.out, ← he.out]; rfl), hb⟩
      · have d1 : ((v : Int) != 0) = true := by simp; omega
        have d2 : decide ((v : Int) % 10 < 0) = false := by simp; omega
        have hstep := hide (fmtRest_step hlt l)
        obtain ⟨B, hB⟩ : ∃ B, B = UInt8.ofNat (48 + v % 10) := ⟨_, rfl⟩
        have hlit := own_byte1 wr 5 (48 + (v : Int) % 10) B (by rw [hB, bc_ofNat _ (by omega)]; rfl)
        have hadd := fun X : World => str_add (P := Tryd.prog) 9 [B] l (by simp; omega) X
        rw [← hB] at hstep
        replace hB := hide hB
        go_wp2_with (with_reducible refine wpList_own_string (o := ⟨some 22, _, _, _, _, _⟩) rfl (.tmp 21) _ _ 5 rfl Tryd.underlying44 Tryd.underlying5 Tryd.underlying9 wr.heap.size (some ⟨wr.heap.size, 0, none⟩) 1 1 _ rfl hlit ?_)
        go_roundw
        case rel => exact ⟨v / 10, B :: l, by go_num, by omega, rfl, by rw [hstep.out, he.out], hb.alloc hb.size _⟩
        case measure => simp [intOf]; omega
  · obtain ⟨N, rfl⟩ : ∃ N : Nat, n = -(N : Int) := ⟨n.natAbs, by omega⟩
    have hN : N ≠ 0 := by omega
    have hi := hide (ita_neg N (by omega))
    have hl := dec_len (u := N) (by omega)
    have hst := hide (rest_dec hN)
    have d0 : decide (-(N : Int) < 0) = true := by simp; omega
    have d3 : decide (0 < N) = true := by simp; omega
    have d4 : decide (0 < (N : Int)) = true := by simp; omega
    have d1 : (-(N : Int) == 0) = false := by simp; omega
    go_enter Tryd.func14, Tryd.ntmps14
    go_wp2_with fail
    go_loopw [0, 3, 5] (fun m o d wr => ∃ (v : Nat) (l : List UInt8), m = .int .i64 (-(v : Int)) ∧ v ≤ 9223372036854775808 ∧ o = str l ∧ fmtRest v ++ l = decDigits N ∧ Below w.heap.size w wr) (fun m _ _ _ => (intOf m).natAbs)
    case atStart => exact ⟨N, [], rfl, by omega, rfl, by rw [List.append_nil, hst.out], Below.refl _ _⟩
    case round =>
      clear hst h0 h1 hz hs d0 d1 hN d3 d4
      obtain ⟨v, l, rfl, hv, rfl, he, hb⟩ := hrel
      have hll : l.length ≤ 20 := by have := congrArg List.length he; rw [List.length_append] at this; omega
      by_cases hlt : v = 0
      · subst hlt
        have hadd := fun X : World => (show (binOp .add 9 (.string ⟨#[45]⟩) (str l)).run Tryd.prog X = .ok (str (45 :: l)) X from str_add (P := Tryd.prog) 9 [45] l (by simp; omega) X)
        replace he := hide he
        replace hl := hide hl
        go_wp2_with fail
        go_ret
        exact ⟨ret_str (by rw [hi.out, ← he.out]; rfl), hb⟩
      · have d1 : (-(v : Int) != 0) = true := by simp; omega
        have hstep := hide (fmtRest_step hlt l)
        obtain ⟨B, hB⟩ : ∃ B, B = UInt8.ofNat (48 + v % 10) := ⟨_, rfl⟩
        have hadd := fun X : World => str_add (P := Tryd.prog) 9 [B] l (by simp; omega) X
        rw [← hB] at hstep
        replace he := hide he
        replace hl := hide hl
        by_cases hd : 0 < v % 10
        · have d2 : decide (0 < (v : Int) % 10) = true := by simp; omega
          have hlit := own_byte1 wr 5 (48 + (v : Int) % 10) B (by rw [hB, bc_ofNat _ (by omega)]; rfl)
          replace hB := hide hB
          replace hd := hide hd
          go_wp2_with (with_reducible refine wpList_own_string (o := ⟨some 22, _, _, _, _, _⟩) rfl (.tmp 21) _ _ 5 rfl Tryd.underlying44 Tryd.underlying5 Tryd.underlying9 wr.heap.size (some ⟨wr.heap.size, 0, none⟩) 1 1 _ rfl hlit ?_)
          go_roundw
          case rel => exact ⟨v / 10, B :: l, by go_num, by omega, rfl, by rw [hstep.out, he.out], hb.alloc hb.size _⟩
          case measure => simp [intOf]; omega
        · have d2 : decide (0 < (v : Int) % 10) = false := by simp; omega
          have hlit := own_byte1 wr 5 (48 + -((v : Int) % 10)) B (by rw [hB, bc_ofNat _ (by omega)]; congr 1; omega)
          replace hB := hide hB
          replace hd := hide hd
          go_wp2_with (with_reducible refine wpList_own_string (o := ⟨some 22, _, _, _, _, _⟩) rfl (.tmp 21) _ _ 5 rfl Tryd.underlying44 Tryd.underlying5 Tryd.underlying9 wr.heap.size (some ⟨wr.heap.size, 0, none⟩) 1 1 _ rfl hlit ?_)
          go_roundw
          case rel => exact ⟨v / 10, B :: l, by go_num, by omega, rfl, by rw [hstep.out, he.out], hb.alloc hb.size _⟩
          case measure => simp [intOf]; omega
/-- What ParseInt answers. -/
def parV (s : List UInt8) : Value := .tuple #[.int .i64 (parN s), .bool (parG s)]
theorem digF_small {l : List UInt8} (h : l.length ≤ 11) : digF 0 l < 100000000000 := by
  have h1 := digF_lt l 0
  have h2 := digC_le l
  have h3 := Nat.pow_le_pow_right (n := 10) (by decide) (show digC l ≤ 11 by omega)
  have h4 : (10 : Nat) ^ 11 = 100000000000 := by decide
  omega
theorem take_at {s : List UInt8} {k : Nat} {b : UInt8} (h : s[k]? = some b) : s.take (k + 1) = s.take k ++ [b] := by rw [List.take_add_one, h]; rfl
theorem u8_lt' (b : UInt8) : b.toNat ≤ 255 := by have := b.toNat_lt; omega
set_option maxHeartbeats 1600000 in
set_option maxRecDepth 100000 in
theorem specParI (s : List UInt8) (w : World) (hl : s.length ≤ 1048576) : Calls Tryd.prog 25 #[str s] w (RetVal w (parV s)) := by
  go_enter Tryd.func25, Tryd.ntmps25
  go_wp2_with fail
  go_loopw [4, 5, 6] (fun n c i wr => ∃ (k N C : Nat), k ≤ s.length ∧ k ≤ 11 ∧ i = .int .i64 (k : Int) ∧ n = .int .i64 (N : Int) ∧ c = .int .i64 (C : Int) ∧ N = digF 0 (s.take k) ∧ C = digC (s.take k) ∧ w = wr) (fun _ _ i _ => 11 - (intOf i).toNat)
  case atStart => exact ⟨0, 0, 0, by omega, by omega, rfl, rfl, rfl, rfl, rfl, rfl⟩
  case round =>
    obtain ⟨k, N, C, hk, hk11, rfl, rfl, rfl, hN, hC, rfl⟩ := hrel
    have hNb : N < 100000000000 := by rw [hN]; exact digF_small (by rw [List.length_take]; omega)
    have hCb : C ≤ 11 := by rw [hC]; have := digC_le (s.take k); rw [List.length_take] at this; omega
    by_cases hlt : k < s.length ∧ k < 11
    · obtain ⟨h1, h2⟩ := hlt
      obtain ⟨b, hbk⟩ : ∃ b, s[k] = b := ⟨_, rfl⟩
      have hb : s[k]? = some b := by rw [← hbk]; exact List.getElem?_eq_getElem h1
      have hb255 := u8_lt' b
      have e1 := digF_snoc b (s.take k) 0
      have e2 := digC_snoc b (s.take k)
      rw [← take_at hb] at e1 e2
      have d11 : decide ((k : Int) < 11) = true := by simp; omega
      replace hb := hide hb
      by_cases hd : 48 ≤ b.toNat ∧ b.toNat ≤ 57
      · rw [if_pos hd, ← hN] at e1
        rw [if_pos hd, ← hC] at e2
        obtain ⟨g1, g2⟩ := hd
        have t1 : decide (48 ≤ (b.toNat : Int)) = true := by simp; omega
        have t2 : decide ((b.toNat : Int) ≤ 57) = true := by simp; omega
        replace e1 := hide e1
        replace e2 := hide e2
        replace hN := hide hN
        replace hC := hide hC
        go_wp2_with fail
        go_roundw
        case rel => exact ⟨k + 1, N * 10 + (b.toNat - 48), C + 1, by omega, by omega, by go_num, by rw [show ((N * 10 + (b.toNat - 48) : Nat) : Int) = (N : Int) * 10 + ((b.toNat : Int) - 48) by omega], by go_num, e1.out.symm, e2.out.symm, trivial⟩
        case measure => simp [intOf]; omega
      · rw [if_neg hd, ← hN] at e1
        rw [if_neg hd, ← hC] at e2
        replace e1 := hide e1
        replace e2 := hide e2
        replace hN := hide hN
        replace hC := hide hC
        by_cases g1 : 48 ≤ b.toNat
        · have g2 : ¬ b.toNat ≤ 57 := fun h => hd ⟨g1, h⟩
          have t1 : decide (48 ≤ (b.toNat : Int)) = true := by simp; omega
          have t2 : decide ((b.toNat : Int) ≤ 57) = false := by simp; omega
          clear hd
          go_wp2_with fail
          go_roundw
          case rel => exact ⟨k + 1, N, C, by omega, by omega, by go_num, rfl, rfl, e1.out.symm, e2.out.symm, trivial⟩
          case measure => simp [intOf]; omega
        · have t1 : decide (48 ≤ (b.toNat : Int)) = false := by simp; omega
          clear hd
          go_wp2_with fail
          go_roundw
          case rel => exact ⟨k + 1, N, C, by omega, by omega, by go_num, rfl, rfl, e1.out.symm, e2.out.symm, trivial⟩
          case measure => simp [intOf]; omega
    · have htk : s.take k = s.take 11 := by
        rcases Nat.lt_or_ge k 11 with h | h
        · rw [List.take_of_length_le (show s.length ≤ k by omega), List.take_of_length_le (show s.length ≤ 11 by omega)]
        · rw [show k = 11 by omega]
      rw [htk] at hN hC
      have htest := spec_test s
      have hnum : ∀ m : Int, numOf s = m → parN s = if parG s then m else 0 := fun m h => by unfold parN; rw [h]
      rw [← hC] at htest
      clear htk hl
      have hx : (∃ m : Int, numOf s = m ∧ ((s ≠ [] ∧ s.head? = some 45 ∧ m = -(N : Int)) ∨ (s ≠ [] ∧ s.head? ≠ some 45 ∧ m = (N : Int)) ∨ (s = [] ∧ m = (N : Int)))) := by
        unfold numOf
        rw [← hN]
        cases s with
        | nil => exact ⟨_, rfl, .inr (.inr ⟨rfl, rfl⟩)⟩
        | cons b r =>
          by_cases hb : b = 45
          · subst hb; exact ⟨_, rfl, .inl ⟨by simp, rfl, rfl⟩⟩
          · refine ⟨_, rfl, .inr (.inl ⟨by simp, by simpa using hb, ?_⟩)⟩
            rw [List.head?_cons, if_neg (by simpa using hb)]
      obtain ⟨m, hm, hx⟩ := hx
      have hmr : -100000000000 ≤ m ∧ m ≤ 100000000000 := by rcases hx with ⟨_, _, h⟩ | ⟨_, _, h⟩ | ⟨_, h⟩ <;> omega
      replace hnum := hnum m hm
      rw [hm] at htest
      have hfmt := hide (fun W : World => specItoa m W (by omega) (by omega))
      replace hm := hide hm
      replace hN := hide hN
      replace hC := hide hC
      have hret : ∀ (g : Bool) (v : Int), parG s = g → v = (if g then m else 0) → parV s = .tuple #[.int .i64 v, .bool g] := fun g v h1 h2 => by unfold parV; rw [hnum, h1, h2]
      replace hnum := hide hnum
      have hkk : (k = s.length) ∨ (k < s.length ∧ k = 11) := by omega
      clear hlt hmr hk hk11
      rcases hkk with rfl | ⟨hkk, rfl⟩
      · have hkk : True := trivial
        rcases hx with ⟨hne, h45, rfl⟩ | ⟨hne, h45, rfl⟩ | ⟨hne, rfl⟩
        · have hl0 : 0 < s.length := List.length_pos_iff.2 hne
          have zl : decide (0 < (s.length : Int)) = true := by simp; omega
          obtain ⟨b0, hb0⟩ : ∃ b0, s[0] = b0 := ⟨_, rfl⟩
          have hhd : s.head? = some b0 := by rw [← hb0, List.head?_eq_getElem?]; exact List.getElem?_eq_getElem hl0
          obtain rfl : b0 = 45 := by rw [hhd] at h45; exact Option.some.inj h45
          replace hhd := hide hhd; replace h45 := hide h45; replace hne := hide hne
          by_cases c9 : 9 < C
          · have hp := hret false 0 (by rw [← htest]; simp [c9]) rfl
            have z9 : decide ((9 : Int) < (C : Int)) = true := by simp; omega
            replace htest := hide htest; replace hret := hide hret; replace hp := hide hp
            go_wp2_with fail
            refine bodyPost_ret (v := .tuple #[.int .i64 (0), .bool false]) (by simp [results, Tryd.results25, go_sem]) rfl ?_
            exact ⟨by rw [hp.out], Below.refl _ _⟩
          · by_cases c10 : 10 < s.length
            · have hp := hret false 0 (by rw [← htest]; simp [c9, c10]) rfl
              have z9 : decide ((9 : Int) < (C : Int)) = false := by simp; omega
              have z10 : decide ((10 : Int) < (s.length : Int)) = true := by simp; omega
              replace htest := hide htest; replace hret := hide hret; replace hp := hide hp
              go_wp2_with fail
              refine bodyPost_ret (v := .tuple #[.int .i64 (0), .bool false]) (by simp [results, Tryd.results25, go_sem]) rfl ?_
              exact ⟨by rw [hp.out], Below.refl _ _⟩
            · have z9 : decide ((9 : Int) < (C : Int)) = false := by simp; omega
              have z10 : decide ((10 : Int) < (s.length : Int)) = false := by simp; omega
              rcases ce : (itoa (-(N : Int)) == s) with _ | _
              · have hp := hret false 0 (by rw [← htest, ce]; simp) rfl
                replace htest := hide htest; replace hret := hide hret; replace hp := hide hp
                go_wp2_with (go_at_call 14; refine (hfmt.out _).mono ?_; rintro e w1 ⟨rfl, hb1⟩)
                refine bodyPost_ret (v := .tuple #[.int .i64 (0), .bool false]) (by simp [results, Tryd.results25, go_sem]) rfl ?_
                exact ⟨by rw [hp.out], hb1⟩
              · have hp := hret true (-(N : Int)) (by rw [← htest, ce]; simp [c9, c10]) rfl
                replace htest := hide htest; replace hret := hide hret; replace hp := hide hp
                go_wp2_with (go_at_call 14; refine (hfmt.out _).mono ?_; rintro e w1 ⟨rfl, hb1⟩)
                refine bodyPost_ret (v := .tuple #[.int .i64 (-(N : Int)), .bool true]) (by simp [results, Tryd.results25, go_sem]) rfl ?_
                exact ⟨by rw [hp.out], hb1⟩
        · have hl0 : 0 < s.length := List.length_pos_iff.2 hne
          have zl : decide (0 < (s.length : Int)) = true := by simp; omega
          obtain ⟨b0, hb0⟩ : ∃ b0, s[0] = b0 := ⟨_, rfl⟩
          have hhd : s.head? = some b0 := by rw [← hb0, List.head?_eq_getElem?]; exact List.getElem?_eq_getElem hl0
          have hb45 : b0 ≠ 45 := fun e => h45 (by rw [hhd, e])
          have z45 : ((b0.toNat : Int) == 45) = false := by have h9 : b0.toNat ≠ 45 := fun e => hb45 (UInt8.toNat_inj.1 e); exact beq_false_of_ne (by omega)
          replace hb45 := hide hb45
          replace hhd := hide hhd; replace h45 := hide h45; replace hne := hide hne
          by_cases c9 : 9 < C
          · have hp := hret false 0 (by rw [← htest]; simp [c9]) rfl
            have z9 : decide ((9 : Int) < (C : Int)) = true := by simp; omega
            replace htest := hide htest; replace hret := hide hret; replace hp := hide hp
            go_wp2_with fail
            refine bodyPost_ret (v := .tuple #[.int .i64 (0), .bool false]) (by simp [results, Tryd.results25, go_sem]) rfl ?_
            exact ⟨by rw [hp.out], Below.refl _ _⟩
          · by_cases c10 : 10 < s.length
            · have hp := hret false 0 (by rw [← htest]; simp [c9, c10]) rfl
              have z9 : decide ((9 : Int) < (C : Int)) = false := by simp; omega
              have z10 : decide ((10 : Int) < (s.length : Int)) = true := by simp; omega
              replace htest := hide htest; replace hret := hide hret; replace hp := hide hp
              go_wp2_with fail
              refine bodyPost_ret (v := .tuple #[.int .i64 (0), .bool false]) (by simp [results, Tryd.results25, go_sem]) rfl ?_
              exact ⟨by rw [hp.out], Below.refl _ _⟩
            · have z9 : decide ((9 : Int) < (C : Int)) = false := by simp; omega
              have z10 : decide ((10 : Int) < (s.length : Int)) = false := by simp; omega
              rcases ce : (itoa ((N : Int)) == s) with _ | _
              · have hp := hret false 0 (by rw [← htest, ce]; simp) rfl
                replace htest := hide htest; replace hret := hide hret; replace hp := hide hp
                go_wp2_with (go_at_call 14; refine (hfmt.out _).mono ?_; rintro e w1 ⟨rfl, hb1⟩)
                refine bodyPost_ret (v := .tuple #[.int .i64 (0), .bool false]) (by simp [results, Tryd.results25, go_sem]) rfl ?_
                exact ⟨by rw [hp.out], hb1⟩
              · have hp := hret true ((N : Int)) (by rw [← htest, ce]; simp [c9, c10]) rfl
                replace htest := hide htest; replace hret := hide hret; replace hp := hide hp
                go_wp2_with (go_at_call 14; refine (hfmt.out _).mono ?_; rintro e w1 ⟨rfl, hb1⟩)
                refine bodyPost_ret (v := .tuple #[.int .i64 ((N : Int)), .bool true]) (by simp [results, Tryd.results25, go_sem]) rfl ?_
                exact ⟨by rw [hp.out], hb1⟩
        · have hl0 : s.length = 0 := by rw [hne]; rfl
          replace hne := hide hne
          have zl : decide (0 < (s.length : Int)) = false := decide_eq_false (by omega)
          by_cases c9 : 9 < C
          · have hp := hret false 0 (by rw [← htest]; simp [c9]) rfl
            have z9 : decide ((9 : Int) < (C : Int)) = true := by simp; omega
            replace htest := hide htest; replace hret := hide hret; replace hp := hide hp
            go_wp2_with fail
            refine bodyPost_ret (v := .tuple #[.int .i64 (0), .bool false]) (by simp [results, Tryd.results25, go_sem]) rfl ?_
            exact ⟨by rw [hp.out], Below.refl _ _⟩
          · by_cases c10 : 10 < s.length
            · exfalso; omega
            · have z9 : decide ((9 : Int) < (C : Int)) = false := by simp; omega
              have z10 : decide ((10 : Int) < (s.length : Int)) = false := by simp; omega
              rcases ce : (itoa ((N : Int)) == s) with _ | _
              · have hp := hret false 0 (by rw [← htest, ce]; simp) rfl
                replace htest := hide htest; replace hret := hide hret; replace hp := hide hp
                go_wp2_with (go_at_call 14; refine (hfmt.out _).mono ?_; rintro e w1 ⟨rfl, hb1⟩)
                refine bodyPost_ret (v := .tuple #[.int .i64 (0), .bool false]) (by simp [results, Tryd.results25, go_sem]) rfl ?_
                exact ⟨by rw [hp.out], hb1⟩
              · have hp := hret true ((N : Int)) (by rw [← htest, ce]; simp [c9, c10]) rfl
                replace htest := hide htest; replace hret := hide hret; replace hp := hide hp
                go_wp2_with (go_at_call 14; refine (hfmt.out _).mono ?_; rintro e w1 ⟨rfl, hb1⟩)
                refine bodyPost_ret (v := .tuple #[.int .i64 ((N : Int)), .bool true]) (by simp [results, Tryd.results25, go_sem]) rfl ?_
                exact ⟨by rw [hp.out], hb1⟩
      · have zk : decide ((11 : Int) < (s.length : Int)) = true := by simp; omega
        rcases hx with ⟨hne, h45, rfl⟩ | ⟨hne, h45, rfl⟩ | ⟨hne, rfl⟩
        · have hl0 : 0 < s.length := List.length_pos_iff.2 hne
          have zl : decide (0 < (s.length : Int)) = true := by simp; omega
          obtain ⟨b0, hb0⟩ : ∃ b0, s[0] = b0 := ⟨_, rfl⟩
          have hhd : s.head? = some b0 := by rw [← hb0, List.head?_eq_getElem?]; exact List.getElem?_eq_getElem hl0
          obtain rfl : b0 = 45 := by rw [hhd] at h45; exact Option.some.inj h45
          replace hhd := hide hhd; replace h45 := hide h45; replace hne := hide hne
          by_cases c9 : 9 < C
          · have hp := hret false 0 (by rw [← htest]; simp [c9]) rfl
            have z9 : decide ((9 : Int) < (C : Int)) = true := by simp; omega
            replace htest := hide htest; replace hret := hide hret; replace hp := hide hp
            go_wp2_with fail
            refine bodyPost_ret (v := .tuple #[.int .i64 (0), .bool false]) (by simp [results, Tryd.results25, go_sem]) rfl ?_
            exact ⟨by rw [hp.out], Below.refl _ _⟩
          · by_cases c10 : 10 < s.length
            · have hp := hret false 0 (by rw [← htest]; simp [c9, c10]) rfl
              have z9 : decide ((9 : Int) < (C : Int)) = false := by simp; omega
              have z10 : decide ((10 : Int) < (s.length : Int)) = true := by simp; omega
              replace htest := hide htest; replace hret := hide hret; replace hp := hide hp
              go_wp2_with fail
              refine bodyPost_ret (v := .tuple #[.int .i64 (0), .bool false]) (by simp [results, Tryd.results25, go_sem]) rfl ?_
              exact ⟨by rw [hp.out], Below.refl _ _⟩
            · have z9 : decide ((9 : Int) < (C : Int)) = false := by simp; omega
              have z10 : decide ((10 : Int) < (s.length : Int)) = false := by simp; omega
              rcases ce : (itoa (-(N : Int)) == s) with _ | _
              · have hp := hret false 0 (by rw [← htest, ce]; simp) rfl
                replace htest := hide htest; replace hret := hide hret; replace hp := hide hp
                go_wp2_with (go_at_call 14; refine (hfmt.out _).mono ?_; rintro e w1 ⟨rfl, hb1⟩)
                refine bodyPost_ret (v := .tuple #[.int .i64 (0), .bool false]) (by simp [results, Tryd.results25, go_sem]) rfl ?_
                exact ⟨by rw [hp.out], hb1⟩
              · have hp := hret true (-(N : Int)) (by rw [← htest, ce]; simp [c9, c10]) rfl
                replace htest := hide htest; replace hret := hide hret; replace hp := hide hp
                go_wp2_with (go_at_call 14; refine (hfmt.out _).mono ?_; rintro e w1 ⟨rfl, hb1⟩)
                refine bodyPost_ret (v := .tuple #[.int .i64 (-(N : Int)), .bool true]) (by simp [results, Tryd.results25, go_sem]) rfl ?_
                exact ⟨by rw [hp.out], hb1⟩
        · have hl0 : 0 < s.length := List.length_pos_iff.2 hne
          have zl : decide (0 < (s.length : Int)) = true := by simp; omega
          obtain ⟨b0, hb0⟩ : ∃ b0, s[0] = b0 := ⟨_, rfl⟩
          have hhd : s.head? = some b0 := by rw [← hb0, List.head?_eq_getElem?]; exact List.getElem?_eq_getElem hl0
          have hb45 : b0 ≠ 45 := fun e => h45 (by rw [hhd, e])
          have z45 : ((b0.toNat : Int) == 45) = false := by have h9 : b0.toNat ≠ 45 := fun e => hb45 (UInt8.toNat_inj.1 e); exact beq_false_of_ne (by omega)
          replace hb45 := hide hb45
          replace hhd := hide hhd; replace h45 := hide h45; replace hne := hide hne
          by_cases c9 : 9 < C
          · have hp := hret false 0 (by rw [← htest]; simp [c9]) rfl
            have z9 : decide ((9 : Int) < (C : Int)) = true := by simp; omega
            replace htest := hide htest; replace hret := hide hret; replace hp := hide hp
            go_wp2_with fail
            refine bodyPost_ret (v := .tuple #[.int .i64 (0), .bool false]) (by simp [results, Tryd.results25, go_sem]) rfl ?_
            exact ⟨by rw [hp.out], Below.refl _ _⟩
          · by_cases c10 : 10 < s.length
            · have hp := hret false 0 (by rw [← htest]; simp [c9, c10]) rfl
              have z9 : decide ((9 : Int) < (C : Int)) = false := by simp; omega
              have z10 : decide ((10 : Int) < (s.length : Int)) = true := by simp; omega
              replace htest := hide htest; replace hret := hide hret; replace hp := hide hp
              go_wp2_with fail
              refine bodyPost_ret (v := .tuple #[.int .i64 (0), .bool false]) (by simp [results, Tryd.results25, go_sem]) rfl ?_
              exact ⟨by rw [hp.out], Below.refl _ _⟩
            · have z9 : decide ((9 : Int) < (C : Int)) = false := by simp; omega
              have z10 : decide ((10 : Int) < (s.length : Int)) = false := by simp; omega
              rcases ce : (itoa ((N : Int)) == s) with _ | _
              · have hp := hret false 0 (by rw [← htest, ce]; simp) rfl
                replace htest := hide htest; replace hret := hide hret; replace hp := hide hp
                go_wp2_with (go_at_call 14; refine (hfmt.out _).mono ?_; rintro e w1 ⟨rfl, hb1⟩)
                refine bodyPost_ret (v := .tuple #[.int .i64 (0), .bool false]) (by simp [results, Tryd.results25, go_sem]) rfl ?_
                exact ⟨by rw [hp.out], hb1⟩
              · have hp := hret true ((N : Int)) (by rw [← htest, ce]; simp [c9, c10]) rfl
                replace htest := hide htest; replace hret := hide hret; replace hp := hide hp
                go_wp2_with (go_at_call 14; refine (hfmt.out _).mono ?_; rintro e w1 ⟨rfl, hb1⟩)
                refine bodyPost_ret (v := .tuple #[.int .i64 ((N : Int)), .bool true]) (by simp [results, Tryd.results25, go_sem]) rfl ?_
                exact ⟨by rw [hp.out], hb1⟩
        · have hl0 : s.length = 0 := by rw [hne]; rfl
          replace hne := hide hne
          have zl : decide (0 < (s.length : Int)) = false := decide_eq_false (by omega)
          omega
end Go.Proofs.YtooiobcghobefaaDoor
