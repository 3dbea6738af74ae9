/-
  Walks of the encodings of numbers, in the program and in the reference: what each returns.
  Conditions: as each theorem says.
-/
import Derived.Test.YtooiobcghobefaaDoorNumP
namespace Go.Proofs.YtooiobcghobefaaDoor
open Go.RowKit
set_option linter.unusedVariables false

theorem elemByte : Elem Tryd.prog 44 5 (.int .u8 0) 1 := ⟨Tryd.underlying44, by kernel_rfl, rfl, by decide⟩

/-- 'spec.l1In' -/
theorem in_any (x a b : Int) (r : Bool) (w : World) (hr : (decide (a ≤ x) && decide (x ≤ b)) = r) : Calls Tryd.prog 61 #[.int .i64 x, .int .i64 a, .int .i64 b] w fun e w' => e = .returned (.bool r) ∧ w = w' := by
  subst hr
  by_cases h1 : a ≤ x <;> by_cases h2 : x ≤ b
  all_goals
    go_enter Tryd.func61, Tryd.ntmps61
    go_wp2
    go_ret
    exact ⟨by simp [h1, h2], rfl⟩

set_option maxHeartbeats 800000 in
set_option maxRecDepth 100000 in
theorem implDecF_yes (s : ByteArray) (W : Nat) (w : World) (h1 : 1 ≤ W) (h2 : W ≤ 7) (h3 : W ≤ s.size) (hs : s.size ≤ maxLen) :
    Calls Tryd.prog 34 #[.string s, .int .i64 (W : Int)] w fun e w' => e = .returned (.tuple #[.int .i64 (decF (s.data.toList.take W) : Int), .bool true]) ∧ w = w' := by
  unfold maxLen at hs
  have g1 : decide ((W : Int) < 1) = false := by simp; omega
  have g2 : decide ((7 : Int) < W) = false := by simp; omega
  have g3 : decide ((s.size : Int) < W) = false := by simp; omega
  go_enter Tryd.func34, Tryd.ntmps34
  go_wp2
  go_loop [6, 7] (fun n i => ∃ k N : Nat, k ≤ W ∧ i = .int .i64 (k : Int) ∧ n = .int .i64 (N : Int) ∧ N = decF (s.data.toList.take k)) (fun _ i => W - (intOf i).toNat)
  case atStart => exact ⟨0, 0, Nat.zero_le _, rfl, rfl, rfl⟩
  case round =>
    obtain ⟨k, N, hk, rfl, rfl, hN⟩ := hrel
    by_cases hlt : k < W
    · have hb : N ≤ 281474976710655 := by rw [hN]; exact decF_take_lt s k (by omega)
      replace hN := hide hN
      have hlt' : k < s.size := by omega
      have hb2 := u8_lt s[k]
      go_wp2
      go_round
      case rel => exact ⟨k + 1, 256 * N + s[k].toNat, by omega, by go_num, by go_num, by rw [take_snoc s k hlt', decF_snoc, ← hN.out]⟩
      case measure => simp [intOf]; omega
    · replace hN := hide hN
      go_wp2
      go_ret2
      exact ⟨ret_pair (int_eq (by rw [hN.out, show k = W by omega])) rfl, rfl⟩
theorem implDecF_no (s : ByteArray) (W : Int) (w : World) (h : W < 1 ∨ 7 < W ∨ (s.size : Int) < W) (hs : s.size ≤ maxLen) :
    Calls Tryd.prog 34 #[.string s, .int .i64 W] w fun e w' => e = .returned (.tuple #[.int .i64 0, .bool false]) ∧ w = w' := by
  unfold maxLen at hs
  by_cases h1 : W < 1
  · have g1 : decide (W < 1) = true := by simp; omega
    clear h
    go_enter Tryd.func34, Tryd.ntmps34
    go_wp2
    go_ret2
    exact ⟨rfl, rfl⟩
  · have g1 : decide (W < 1) = false := by simp; omega
    by_cases h2 : 7 < W
    · have g2 : decide (7 < W) = true := by simp; omega
      clear h
      go_enter Tryd.func34, Tryd.ntmps34
      go_wp2
      go_ret2
      exact ⟨rfl, rfl⟩
    · have g2 : decide (7 < W) = false := by simp; omega
      have g3 : decide ((s.size : Int) < W) = true := by simp; omega
      clear h
      go_enter Tryd.func34, Tryd.ntmps34
      go_wp2
      go_ret2
      exact ⟨rfl, rfl⟩
theorem implVar_no (n : Int) (w : World) (h : n < 0 ∨ 562949953421311 < n) : Calls Tryd.prog 30 #[.int .i64 n] w (RetVal w (str [])) := by
  by_cases h0 : n < 0
  · have h1 : decide (n < 0) = true := by simp; omega
    clear h
    go_enter Tryd.func30, Tryd.ntmps30
    go_wp2
    go_ret
    exact ⟨rfl, Below.refl _ _⟩
  · have h1 : decide (n < 0) = false := by simp; omega
    have h2 : decide (562949953421311 < n) = true := by simp; omega
    clear h
    go_enter Tryd.func30, Tryd.ntmps30
    go_wp2
    go_ret
    exact ⟨rfl, Below.refl _ _⟩

set_option maxHeartbeats 800000 in
set_option maxRecDepth 100000 in
theorem implVar_yes (n : Nat) (w : World) (h : n ≤ 562949953421311) : Calls Tryd.prog 30 #[.int .i64 n] w (RetVal w (str (varF 7 n))) := by
  have h1 : decide ((562949953421311 : Int) < n) = false := by simp; omega
  go_enter Tryd.func30, Tryd.ntmps30
  go_wp2
  go_loopw [0, 3] (fun m l wr => ∃ (q k N c : Nat) (A : Option Addr) (ys : List UInt8), m = .int .i64 (q : Int) ∧ q ≤ n ∧ q < 128 ^ (k + 1) ∧ N + k = 7 ∧ ys ++ varF k q = varF 7 n ∧ l = .slice A N c ∧ wr.ownsRow w.heap.size 5 1 (.slice A N c) N (ys.map bc) ∧ Below w.heap.size w wr) (fun m _ _ => (intOf m).toNat)
  case atStart => exact ⟨n, 7, 0, 0, _, [], rfl, by omega, by omega, rfl, rfl, rfl, World.ownsRow_lit (e := 5) (size := 1) w #[] 0 (Nat.le_refl _) (by unfold maxLen; omega) rfl, (Below.refl _ _).alloc (Nat.le_refl _) _⟩
  case round =>
    obtain ⟨q, k, N, c, A, ys, rfl, hqn, hq, hN, hys, rfl, hown, hb⟩ := hrel
    have hq0 : q ≤ 562949953421311 := by omega
    replace hqn := hide hqn
    replace hN := hide hN
    replace hq := hide hq
    replace hys := hide hys
    clear h h1
    by_cases hlt : q < 128
    · go_wp2_with (first
        | (at_builtin; refine wpList_push elemByte rfl (.tmp 22) (.tmp 25) wr _ rfl w.heap.size (.slice A N c) N (ys.map bc) rfl rfl hown rfl (by have := hN.out; omega) hb.size ?_; intro A' c' w1 hown' hg hat; have hs := own_snoc (b := UInt8.ofNat q) (f := bc) hown' (bc_ofNat q (by omega)))
        | (with_reducible refine wpList_own_string (o := ⟨some 27, _, _, _, _, _⟩) rfl (.tmp 26) _ _ 5 rfl Tryd.underlying44 Tryd.underlying5 Tryd.underlying9 w.heap.size A' (N + 1) c' _ rfl hs ?_))
      go_ret
      exact ⟨ret_str (by rw [← hys.out, varF_small _ _ hlt]), below_push hb hb.size hown hg⟩
    · go_wp2_with (first
        | (at_builtin; refine wpList_push elemByte rfl (.tmp 13) (.tmp 18) wr _ rfl w.heap.size (.slice A N c) N (ys.map bc) rfl rfl hown rfl (by have := hN.out; omega) hb.size ?_; intro A' c' w1 hown' hg hat))
      obtain ⟨k', rfl⟩ : ∃ k', k = k' + 1 := by
        rcases k with _ | k'
        · have := hq.out; omega
        · exact ⟨k', rfl⟩
      have hq1 := div_pow_lt _ _ hq.out
      have hs := own_snoc (b := UInt8.ofNat (q % 128 + 128)) (f := bc) hown' (by rw [bc_ofNat _ (by omega)]; rfl)
      go_roundw
      case rel => exact ⟨q / 128, k', N + 1, c', A', ys ++ [UInt8.ofNat (q % 128 + 128)], by simp, by have := hqn.out; omega, hq1, by have := hN.out; omega, by rw [← hys.out, varF_big _ _ (by omega)]; simp, rfl, hs, below_push hb hb.size hown hg⟩
      case measure => simp [intOf]; omega


/-! ### EncodeFixed -/
set_option maxHeartbeats 800000 in
set_option maxRecDepth 100000 in
theorem implFix_big (n W : Nat) (w : World) (h1 : 1 ≤ W) (h2 : W ≤ 7) (h : n ≤ 9223372036854775807) (hbig : 256 ^ W ≤ n) :
    Calls Tryd.prog 33 #[.int .i64 (n : Int), .int .i64 (W : Int)] w (RetVal w (str [])) := by
  have g1 : decide ((W : Int) < 1) = false := by simp; omega
  have g2 : decide ((7 : Int) < W) = false := by simp; omega
  have g3 := shr_pos n W hbig
  clear hbig
  go_enter Tryd.func33, Tryd.ntmps33
  go_wp2
  go_ret
  exact ⟨rfl, Below.refl _ _⟩
set_option maxHeartbeats 800000 in
set_option maxRecDepth 100000 in
theorem implFix_yes (n W : Nat) (w : World) (h1 : 1 ≤ W) (h2 : W ≤ 7) (h : n ≤ 9223372036854775807) (hsm : n < 256 ^ W) :
    Calls Tryd.prog 33 #[.int .i64 (n : Int), .int .i64 (W : Int)] w (RetVal w (str (be W n))) := by
  have g1 : decide ((W : Int) < 1) = false := by simp; omega
  have g2 : decide ((7 : Int) < W) = false := by simp; omega
  have g3 := shr_zero n W hsm
  clear hsm
  obtain ⟨i, hi, hz, hz1, hz2⟩ := info_parts elemByte.info
  go_enter Tryd.func33, Tryd.ntmps33
  go_wp2_with (at_make; refine wpList_make_full _ rfl _ _ 44 rfl w.heap.size 5 i (.int .u8 0) 1 Tryd.underlying44 hi hz hz1 .i64 .i64 _ _ W rfl rfl rfl rfl (by rw [hz2]; omega) (by unfold maxLen; omega) (Nat.le_refl _) ?_; intro w1 hown hg)
  have hb : Below w.heap.size w w1 := (Below.refl _ _).grown hg (Nat.le_refl _) (by intro k hk; cases hk)
  replace hown : w1.ownsRow w.heap.size 5 1 (.slice (some ⟨w.heap.size, 0, none⟩) W W) W (List.replicate W (.int .u8 0) ++ (be 0 n).map bc) := by
    have e : (madeCells (Value.int .u8 0).cells (W * 1)).toList = List.replicate W (.int .u8 0) ++ (be 0 n).map bc := by
      show (madeCells #[Value.int .u8 0] (W * 1)).toList = _
      rw [toList_madeCells_one]; simp [be]
    rw [e] at hown; exact hown
  clear hi hz hz1 hz2 hg
  go_loopw [0, 6] (fun m i wr => ∃ (r k : Nat) (q : Int) (N : Nat), r + k = W ∧ i = .int .i64 q ∧ q = (r : Int) - 1 ∧ m = .int .i64 (N : Int) ∧ N = n / 256 ^ k ∧ N ≤ 9223372036854775807 ∧ wr.ownsRow w.heap.size 5 1 (.slice (some ⟨w.heap.size, 0, none⟩) W W) W (List.replicate r (.int .u8 0) ++ (be k n).map bc) ∧ Below w.heap.size w wr) (fun _ i _ => (intOf i + 1).toNat)
  case atStart => exact ⟨W, 0, _, n, rfl, rfl, rfl, rfl, by simp, h, hown, hb⟩
  case round =>
    obtain ⟨r, k, q, N, hrk, rfl, hq, rfl, hN, hN2, hown, hb⟩ := hrel
    clear g1 g2 g3
    by_cases hlt : 0 ≤ q
    · obtain ⟨j, rfl⟩ : ∃ j, r = j + 1 := ⟨r - 1, by omega⟩
      obtain rfl : q = (j : Int) := by omega
      clear hq hlt
      have hjW : j < W := by omega
      have hcell : ∃ v, wr.cell? ⟨w.heap.size, j, none⟩ = some v := by
        rw [hown.cellAt j (by omega)]
        exact ⟨_, List.getElem?_eq_getElem (by have := hown.1; omega)⟩
      obtain ⟨v, hcell⟩ := hcell
      have hfz := hown.frozenAt j
      replace hN := hide hN
      replace hrk := hide hrk
      go_wp2
      have hst := hown.stored j (bc (UInt8.ofNat (N % 256)))
      rw [set_zeros] at hst
      go_roundw
      case rel => exact ⟨j, k + 1, (j : Int) - 1, N / 256, by have := hrk.out; omega, rfl, rfl, by go_num, by rw [hN.out, div_step], by omega, by rw [bc_ofNat _ (by omega)] at hst; simp only [be, List.map_cons]; rw [bc_ofNat _ (by omega), ← hN.out]; exact hst.1, hb.setCell (Nat.le_refl _) _⟩
      case measure => simp [intOf]
    · obtain rfl : r = 0 := by omega
      obtain rfl : k = W := by omega
      clear hq hN hrk
      simp only [List.replicate_zero, List.nil_append] at hown
      go_wp2_with (with_reducible refine wpList_own_string (o := ⟨some 41, _, _, _, _, _⟩) rfl (.tmp 40) _ _ 5 rfl Tryd.underlying44 Tryd.underlying5 Tryd.underlying9 w.heap.size (some ⟨w.heap.size, 0, none⟩) k k (be k n) rfl hown ?_)
      go_ret
      exact ⟨rfl, hb⟩
theorem implFix_no (n W : Int) (w : World) (h : W < 1 ∨ 7 < W ∨ n < 0) :
    Calls Tryd.prog 33 #[.int .i64 n, .int .i64 W] w (RetVal w (str [])) := by
  by_cases h1 : W < 1
  · have g1 : decide (W < 1) = true := by simp; omega
    clear h
    go_enter Tryd.func33, Tryd.ntmps33
    go_wp2
    go_ret
    exact ⟨rfl, Below.refl _ _⟩
  · have g1 : decide (W < 1) = false := by simp; omega
    by_cases h2 : 7 < W
    · have g2 : decide (7 < W) = true := by simp; omega
      clear h
      go_enter Tryd.func33, Tryd.ntmps33
      go_wp2
      go_ret
      exact ⟨rfl, Below.refl _ _⟩
    · have g2 : decide (7 < W) = false := by simp; omega
      have g3 : decide (n < 0) = true := by simp; omega
      clear h
      go_enter Tryd.func33, Tryd.ntmps33
      go_wp2
      go_ret
      exact ⟨rfl, Below.refl _ _⟩
theorem specFix_no (n W : Int) (w : World) (h : W < 1 ∨ 7 < W ∨ n < 0) :
    Calls Tryd.prog 35 #[.int .i64 n, .int .i64 W] w (RetVal w (str [])) := by
  by_cases h1 : W < 1 ∨ 7 < W
  · have g1 : (decide (1 ≤ W) && decide (W ≤ 7)) = false := by simp; omega
    replace g1 := hide g1
    clear h h1
    go_enter Tryd.func35, Tryd.ntmps35
    go_wp2_with (go_at_call 61; refine (in_any _ _ _ false _ g1).mono ?_; rintro e w' ⟨rfl, rfl⟩)
    go_ret
    exact ⟨rfl, Below.refl _ _⟩
  · have g1 : (decide (1 ≤ W) && decide (W ≤ 7)) = true := by simp; omega
    have g3 : decide (n < 0) = true := by simp; omega
    replace g1 := hide g1
    clear h h1
    go_enter Tryd.func35, Tryd.ntmps35
    go_wp2_with (go_at_call 61; refine (in_any _ _ _ true _ g1).mono ?_; rintro e w' ⟨rfl, rfl⟩)
    go_ret
    exact ⟨rfl, Below.refl _ _⟩
set_option maxHeartbeats 800000 in
set_option maxRecDepth 100000 in
theorem specFix_yes (n W : Nat) (w : World) (h1 : 1 ≤ W) (h2 : W ≤ 7) (h : n ≤ 9223372036854775807) :
    Calls Tryd.prog 35 #[.int .i64 (n : Int), .int .i64 (W : Int)] w (RetVal w (str (fixW W n))) := by
  have g1 : (decide (1 ≤ (W : Int)) && decide ((W : Int) ≤ 7)) = true := by simp; omega
  have g3 : decide ((n : Int) < 0) = false := by simp
  replace g1 := hide g1
  go_enter Tryd.func35, Tryd.ntmps35
  go_wp2_with (go_at_call 61; refine (in_any _ _ _ true _ g1).mono ?_; rintro e w' ⟨rfl, rfl⟩)
  go_loopw [0, 5, 6] (fun m o i wr => ∃ (k N : Nat), k ≤ W ∧ i = .int .i64 (k : Int) ∧ m = .int .i64 (N : Int) ∧ N = n / 256 ^ k ∧ N ≤ 9223372036854775807 ∧ o = str (be k n) ∧ Below w.heap.size w wr) (fun _ _ i _ => W - (intOf i).toNat)
  case atStart => exact ⟨0, n, by omega, rfl, rfl, by simp, h, rfl, Below.refl _ _⟩
  case round =>
    obtain ⟨k, N, hk, rfl, rfl, hN, hN2, rfl, hb⟩ := hrel
    replace hN := hide hN
    by_cases hlt : k < W
    · clear g1 g3
      have hlit := own_byte1 wr 5 ((N : Int) % 256) (UInt8.ofNat (N % 256)) (by rw [bc_ofNat _ (by omega)]; rfl)
      have hadd := fun X : World => str_add (P := Tryd.prog) 9 [UInt8.ofNat (N % 256)] (be k n) (by rw [be_length]; simp; omega) X
      go_wp2_with (with_reducible refine wpList_own_string (o := ⟨some 23, _, _, _, _, _⟩) rfl (.tmp 22) _ _ 5 rfl Tryd.underlying44 Tryd.underlying5 Tryd.underlying9 wr.heap.size (some ⟨wr.heap.size, 0, none⟩) 1 1 _ rfl hlit ?_)
      go_roundw
      case rel => exact ⟨k + 1, N / 256, by omega, by go_num, by go_num, by rw [hN.out, div_step], by omega, by rw [be, hN.out], hb.alloc hb.size _⟩
      case measure => simp [intOf]; omega
    · obtain rfl : k = W := by omega
      clear g1 g3
      by_cases hz : 0 < N
      · have g4 : 256 ^ k ≤ n := by
          rcases Nat.lt_or_ge n (256 ^ k) with hl | hl
          · have := Nat.div_eq_of_lt hl; have := hN.out; omega
          · exact hl
        have g5 := hide (fixW_big g4)
        clear g4
        go_wp2
        go_ret
        exact ⟨by rw [g5.out]; rfl, hb⟩
      · have g4 : n < 256 ^ k := by
          have h0 : n / 256 ^ k = 0 := by have := hN.out; omega
          rcases (Nat.div_eq_zero_iff).1 h0 with hl | hl
          · have := Nat.pow_pos (n := k) (show 0 < 256 by omega); omega
          · exact hl
        have g5 := hide (fixW_small g4)
        clear g4
        go_wp2
        go_ret
        exact ⟨by rw [g5.out]; rfl, hb⟩
end Go.Proofs.YtooiobcghobefaaDoor
