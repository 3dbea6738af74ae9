/-
  Draws of numbers and of texts.
  Conditions: as each theorem says.
-/
import Derived.Test.YtooiobcghobefaaDoorDraw4
import Derived.Test.YtooiobcghobefaaDoorNum
namespace Go.Proofs.YtooiobcghobefaaDoor
open Go.RowKit
set_option linter.unusedVariables false

/-- A number of 64 bits. -/
def I64V (v : Value) : Prop := ∃ x : Int, v = .int .i64 x ∧ -9223372036854775808 ≤ x ∧ x ≤ 9223372036854775807
def numsL : List Int := [-1, 0, 127, 128, 255, 256, 16383, 16384, 65535, 65536, 562949953421311, 562949953421312, 999999999, 1000000000, -999999999, 9223372036854775807, -9223372036854775808]
theorem numsL_in (x : Int) (h : x ∈ numsL) : -9223372036854775808 ≤ x ∧ x ≤ 9223372036854775807 := by
  have : numsL.all (fun x => decide (-9223372036854775808 ≤ x) && decide (x ≤ 9223372036854775807)) = true := by decide +kernel
  simpa using List.all_eq_true.1 this x h
set_option maxHeartbeats 1600000 in
set_option maxRecDepth 100000 in
theorem l1num (g B : Nat) (A : Option Addr) (n c : Nat) (zs : List Int) (w : World) (hc : CurAt w g B A n c zs) :
    Calls Tryd.prog 58 #[.pointer (some ⟨g, 0, none⟩)] w (RetC I64V w g B A n c zs) := by
  go_enter Tryd.func58, Tryd.ntmps58
  go_wp2_with fail
  refine (l1below g B A n c zs 8 _ hc).mono ?_
  rintro e w1 ⟨v, rfl, ⟨y, rfl, hy⟩, hc1, hg1⟩
  replace hy := hide hy
  replace hc := hide hc
  by_cases y0 : y = 0
  · subst y0
    have hl0 := World.ownsRow_lit (base := w1.heap.size) (e := 3) (size := 1) w1 (numsL.map (Value.int .i64)).toArray 17 (Nat.le_refl _) (by unfold maxLen; omega) rfl
    have hl : (w1.alloc (.cells (numsL.map (Value.int .i64)).toArray 3)).ownsRow w1.heap.size 3 1 (.slice (some ⟨w1.heap.size, 0, none⟩) 17 17) 17 (numsL.map (Value.int .i64)) := hl0
    have hca : CurAt (w1.alloc (.cells (numsL.map (Value.int .i64)).toArray 3)) g B A n c zs := hc1.below ((Below.refl _ _).alloc (Nat.le_refl _) _)
    have hga := World.grownBy_alloc w1 (.cells (numsL.map (Value.int .i64)).toArray 3) (some g)
    have hpick := hide (l1pick g B A n c zs _ 17 17 _ _ _ hca hl (by omega))
    replace hc1 := hide hc1
    replace hca := hide hca
    clear hl hl0
    go_wp2_with fail
    refine Calls.mono (show Calls _ _ _ _ _ from hpick.out) ?_
    rintro e w2 ⟨v, rfl, ⟨x, hx, rfl⟩, hc2, hg2⟩
    replace hc2 := hide hc2
    have hx2 := numsL_in x hx
    replace hx := hide hx
    go_wp2_with fail
    go_ret
    exact ⟨_, rfl, ⟨_, rfl, hx2⟩, hc2.out, (hg1.trans hga).trans hg2⟩
  have e0 : ((y : Int) == 0) = false := by simp; omega
  have e0' : (y == 0) = false := by simp; omega
  by_cases y1 : y = 1
  · subst y1
    go_wp2_with fail
    refine (l1below g B A n c zs 1000000000 _ hc1).mono ?_
    rintro e w2 ⟨v, rfl, ⟨p, rfl, hp⟩, hc2, hg2⟩
    have hp2 : (p : Int) < 1000000000 := hp (by omega)
    replace hp := hide hp
    replace hc1 := hide hc1
    go_wp2_with fail
    refine (l1below g B A n c zs 1000000000 _ hc2).mono ?_
    rintro e w3 ⟨v, rfl, ⟨q, rfl, hq⟩, hc3, hg3⟩
    have hq2 : (q : Int) < 1000000000 := hq (by omega)
    have hpq : p * q ≤ 1000000000 * 1000000000 := Nat.mul_le_mul (by omega) (by omega)
    have hwm : IntKind.i64.wrap ((p : Int) * (q : Int)) = ((p * q : Nat) : Int) := by rw [show (p : Int) * (q : Int) = ((p * q : Nat) : Int) by simp]; exact IntWalk.i64_in _ (by omega)
    replace hq := hide hq
    replace hc2 := hide hc2
    replace hc3 := hide hc3
    go_wp2_with fail
    go_ret
    exact ⟨_, rfl, ⟨_, rfl, by omega, by omega⟩, hc3.out, (hg1.trans hg2).trans hg3⟩
  have e1 : ((y : Int) == 1) = false := by simp; omega
  have e1' : (y == 1) = false := by simp; omega
  by_cases y2 : y = 2
  · subst y2
    go_wp2_with fail
    refine (l1below g B A n c zs 100000 _ hc1).mono ?_
    rintro e w2 ⟨v, rfl, ⟨p, rfl, hp⟩, hc2, hg2⟩
    have hp2 : (p : Int) < 100000 := hp (by omega)
    replace hp := hide hp
    replace hc1 := hide hc1
    replace hc2 := hide hc2
    go_wp2_with fail
    go_ret
    exact ⟨_, rfl, ⟨_, rfl, by omega, by omega⟩, hc2.out, hg1.trans hg2⟩
  have e2 : ((y : Int) == 2) = false := by simp; omega
  have e2' : (y == 2) = false := by simp; omega
  go_wp2_with fail
  refine (l1below g B A n c zs 70000 _ hc1).mono ?_
  rintro e w2 ⟨v, rfl, ⟨p, rfl, hp⟩, hc2, hg2⟩
  have hp2 : (p : Int) < 70000 := hp (by omega)
  replace hp := hide hp
  replace hc1 := hide hc1
  replace hc2 := hide hc2
  go_wp2_with fail
  go_ret
  exact ⟨_, rfl, ⟨_, rfl, by omega, by omega⟩, hc2.out, hg1.trans hg2⟩
/-- A text, drawn. -/
def RetTx (m : Nat) (w : World) (g B : Nat) (A : Option Addr) (n c : Nat) (zs : List Int) (e : Ending) (w' : World) : Prop :=
  ∃ l : List UInt8, e = .returned (str l) ∧ l.length ≤ m ∧ CurAt w' g B A n c zs ∧ w.grownBy w' (some g)
set_option maxHeartbeats 3200000 in
set_option maxRecDepth 100000 in
theorem l1text (m g B : Nat) (A : Option Addr) (n c : Nat) (zs : List Int) (w : World) (hm : m ≤ 1000) (hc : CurAt w g B A n c zs) :
    Calls Tryd.prog 59 #[.pointer (some ⟨g, 0, none⟩), .int .i64 (m : Int)] w (RetTx m w g B A n c zs) := by
  have hBw := hc.base
  have hca : CurAt (w.alloc (.cells #[] 5)) g B A n c zs := hc.below ((Below.refl _ _).alloc (Nat.le_refl _) _)
  have hst : (w.alloc (.cells #[] 5)).ownsRow w.heap.size 5 1 (.slice (some ⟨w.heap.size, 0, none⟩) 0 0) 0 (([] : List UInt8).map bc) := own_start w _
  have hga := World.grownBy_alloc w (.cells #[] 5) (some g)
  replace hc := hide hc
  go_enter Tryd.func59, Tryd.ntmps59
  go_wp2_with fail
  refine (l1below g B A n c zs 4 _ hca).mono ?_
  rintro e w1 ⟨v, rfl, ⟨s, rfl, hs⟩, hc1, hg1⟩
  have hst1 := hst.kept hg1 (hca.ne hst (by decide))
  have hgr := hga.trans hg1
  replace hs := hide hs
  replace hca := hide hca
  replace hst := hide hst
  clear hg1 hga
  go_wp2_with fail
  refine (l1below g B A n c zs ((m : Int) + 1) _ hc1).mono ?_
  rintro e w2 ⟨v, rfl, ⟨t, rfl, ht⟩, hc2, hg2⟩
  have htm : (t : Int) < (m : Int) + 1 := ht (by omega)
  have hst2 := hst1.kept hg2 (hc1.ne hst1 (by decide))
  have hgr2 := hgr.trans hg2
  replace ht := hide ht
  replace hc1 := hide hc1
  replace hst1 := hide hst1
  clear hg2 hgr
  go_wp2_with fail
  by_cases s1 : s = 1
  · subst s1
    go_loopw [5, 7, 8] (fun out i _ wr => ∃ (k N d : Nat) (A' : Option Addr) (l : List UInt8), k ≤ t ∧ i = .int .i64 (k : Int) ∧ out = .slice A' N d ∧ wr.ownsRow w.heap.size 5 1 (.slice A' N d) N (l.map bc) ∧ N + k ≤ m ∧ CurAt wr g B A n c zs ∧ w.grownBy wr (some g)) (fun _ i _ _ => (intOf i).toNat)
    case atStart => exact ⟨t, 0, 0, _, [], by omega, rfl, rfl, hst2, by omega, hc2, hgr2⟩
    case round =>
      clear hst2 hc2 hgr2
      obtain ⟨k, N, d, A', l, hk, rfl, rfl, hown, hN, hcr, hg⟩ := hrel
      have hsz := hg.size
      have hll : l.length = N := by have := own_len hown; simpa using this
      rcases Nat.eq_zero_or_pos k with h0 | h0
      · subst h0
        have hcr' := hide hcr
        clear hcr
        go_wp2_with (with_reducible refine wpList_own_string (o := ⟨some 37, _, _, _, _, _⟩) rfl (.tmp 36) _ _ 5 rfl Tryd.underlying44 Tryd.underlying5 Tryd.underlying9 w.heap.size A' N d _ rfl hown ?_)
        go_ret
        exact ⟨l, rfl, by omega, hcr'.out, hg⟩
      · have d1 : decide ((0 : Int) < (k : Int)) = true := by simp; omega
        have d1' : decide (0 < k) = true := by simp; omega
        obtain ⟨k, rfl⟩ : ∃ q, k = q + 1 := ⟨k - 1, by omega⟩
        replace hown' := hide hown
        replace hll := hide hll
        clear hown
        go_wp2_with fail
        refine (l1byte g B A n c zs _ hcr).mono ?_
        rintro e w3 ⟨v, rfl, ⟨x, hx, rfl⟩, hc3, hg3⟩
        have hown3 := hown'.out.kept hg3 (hcr.ne hown'.out (by decide))
        have hgr3 := hg.trans hg3
        have hs3 := hgr3.size
        replace hcr := hide hcr
        have hz : x % 2 < 256 := by omega
        have hzw : IntKind.u8.wrap ((x : Int) % 2) = (x : Int) % 2 := IntWalk.u8_in _ (by omega)
        have hbz : bc (UInt8.ofNat (x % 2)) = .int .u8 ((x : Int) % 2) := (bc_ofNat _ hz).trans (int_eq (by omega))
        have hmd : Int.tmod (x : Int) 2 = (x : Int) % 2 := IntWalk.rem_in _ _ (by omega)
        replace hbz := hide hbz
        go_wp2_with (at_builtin; refine wpList_push elemByte rfl (.tmp 31) (.tmp 34) w3 (.int .u8 ((x : Int) % 2)) rfl w.heap.size (.slice A' N d) N _ rfl rfl hown3 rfl (by omega) (by omega) ?_; intro A4 c4 w4 hown4 hg4 hat4)
        have hgr4 := grown_new hgr3 hg4 (fun b hb => (hown3.lt b hb).1)
        have hc4 := hc3.other hown3 (by decide) hBw hg4
        replace hc3 := hide hc3
        replace hc4 := hide hc4
        clear hat4
        go_wp2_with fail
        go_roundw
        case rel => first | exact ⟨k, N + 1, c4, A4, l ++ [UInt8.ofNat (x % 2)], by omega, by go_num, rfl, own_snoc hown4 hbz.out, by omega, hc4.out, hgr4⟩ | ((repeat apply Exists.intro); exact ⟨⟨k, N + 1, c4, A4, l ++ [UInt8.ofNat (x % 2)], by omega, by go_num, rfl, own_snoc hown4 hbz.out, by omega, hc4.out, hgr4⟩, rfl⟩)
        case measure => simp [intOf]
  by_cases s2 : s = 2
  · subst s2
    clear s1
    go_loopw [5, 7, 8] (fun out i _ wr => ∃ (k N d : Nat) (A' : Option Addr) (l : List UInt8), k ≤ t ∧ i = .int .i64 (k : Int) ∧ out = .slice A' N d ∧ wr.ownsRow w.heap.size 5 1 (.slice A' N d) N (l.map bc) ∧ N + k ≤ m ∧ CurAt wr g B A n c zs ∧ w.grownBy wr (some g)) (fun _ i _ _ => (intOf i).toNat)
    case atStart => exact ⟨t, 0, 0, _, [], by omega, rfl, rfl, hst2, by omega, hc2, hgr2⟩
    case round =>
      clear hst2 hc2 hgr2
      obtain ⟨k, N, d, A', l, hk, rfl, rfl, hown, hN, hcr, hg⟩ := hrel
      have hsz := hg.size
      have hll : l.length = N := by have := own_len hown; simpa using this
      rcases Nat.eq_zero_or_pos k with h0 | h0
      · subst h0
        have hcr' := hide hcr
        clear hcr
        go_wp2_with (with_reducible refine wpList_own_string (o := ⟨some 37, _, _, _, _, _⟩) rfl (.tmp 36) _ _ 5 rfl Tryd.underlying44 Tryd.underlying5 Tryd.underlying9 w.heap.size A' N d _ rfl hown ?_)
        go_ret
        exact ⟨l, rfl, by omega, hcr'.out, hg⟩
      · have d1 : decide ((0 : Int) < (k : Int)) = true := by simp; omega
        have d1' : decide (0 < k) = true := by simp; omega
        obtain ⟨k, rfl⟩ : ∃ q, k = q + 1 := ⟨k - 1, by omega⟩
        replace hown' := hide hown
        replace hll := hide hll
        clear hown
        go_wp2_with fail
        refine (l1byte g B A n c zs _ hcr).mono ?_
        rintro e w3 ⟨v, rfl, ⟨x, hx, rfl⟩, hc3, hg3⟩
        have hown3 := hown'.out.kept hg3 (hcr.ne hown'.out (by decide))
        have hgr3 := hg.trans hg3
        have hs3 := hgr3.size
        replace hcr := hide hcr
        have hz : 97 + x % 4 < 256 := by omega
        have hzw : IntKind.u8.wrap (97 + (x : Int) % 4) = 97 + (x : Int) % 4 := IntWalk.u8_in _ (by omega)
        have hbz : bc (UInt8.ofNat (97 + x % 4)) = .int .u8 (97 + (x : Int) % 4) := (bc_ofNat _ hz).trans (int_eq (by omega))
        have hmd : Int.tmod (x : Int) 4 = (x : Int) % 4 := IntWalk.rem_in _ _ (by omega)
        replace hbz := hide hbz
        go_wp2_with (at_builtin; refine wpList_push elemByte rfl (.tmp 31) (.tmp 34) w3 (.int .u8 (97 + (x : Int) % 4)) rfl w.heap.size (.slice A' N d) N _ rfl rfl hown3 rfl (by omega) (by omega) ?_; intro A4 c4 w4 hown4 hg4 hat4)
        have hgr4 := grown_new hgr3 hg4 (fun b hb => (hown3.lt b hb).1)
        have hc4 := hc3.other hown3 (by decide) hBw hg4
        replace hc3 := hide hc3
        replace hc4 := hide hc4
        clear hat4
        go_wp2_with fail
        go_roundw
        case rel => first | exact ⟨k, N + 1, c4, A4, l ++ [UInt8.ofNat (97 + x % 4)], by omega, by go_num, rfl, own_snoc hown4 hbz.out, by omega, hc4.out, hgr4⟩ | ((repeat apply Exists.intro); exact ⟨⟨k, N + 1, c4, A4, l ++ [UInt8.ofNat (97 + x % 4)], by omega, by go_num, rfl, own_snoc hown4 hbz.out, by omega, hc4.out, hgr4⟩, rfl⟩)
        case measure => simp [intOf]
  have f1 : ((s : Int) == 1) = false := by simp; omega
  have f1' : (s == 1) = false := by simp; omega
  have f2 : ((s : Int) == 2) = false := by simp; omega
  have f2' : (s == 2) = false := by simp; omega
  replace s1 := hide s1
  replace s2 := hide s2
  go_loopw [5, 7, 8] (fun out i _ wr => ∃ (k N d : Nat) (A' : Option Addr) (l : List UInt8), k ≤ t ∧ i = .int .i64 (k : Int) ∧ out = .slice A' N d ∧ wr.ownsRow w.heap.size 5 1 (.slice A' N d) N (l.map bc) ∧ N + k ≤ m ∧ CurAt wr g B A n c zs ∧ w.grownBy wr (some g)) (fun _ i _ _ => (intOf i).toNat)
  case atStart => exact ⟨t, 0, 0, _, [], by omega, rfl, rfl, hst2, by omega, hc2, hgr2⟩
  case round =>
    clear hst2 hc2 hgr2
    obtain ⟨k, N, d, A', l, hk, rfl, rfl, hown, hN, hcr, hg⟩ := hrel
    have hsz := hg.size
    have hll : l.length = N := by have := own_len hown; simpa using this
    rcases Nat.eq_zero_or_pos k with h0 | h0
    · subst h0
      have hcr' := hide hcr
      clear hcr
      go_wp2_with (with_reducible refine wpList_own_string (o := ⟨some 37, _, _, _, _, _⟩) rfl (.tmp 36) _ _ 5 rfl Tryd.underlying44 Tryd.underlying5 Tryd.underlying9 w.heap.size A' N d _ rfl hown ?_)
      go_ret
      exact ⟨l, rfl, by omega, hcr'.out, hg⟩
    · have d1 : decide ((0 : Int) < (k : Int)) = true := by simp; omega
      have d1' : decide (0 < k) = true := by simp; omega
      obtain ⟨k, rfl⟩ : ∃ q, k = q + 1 := ⟨k - 1, by omega⟩
      replace hown' := hide hown
      replace hll := hide hll
      clear hown
      go_wp2_with fail
      refine (l1byte g B A n c zs _ hcr).mono ?_
      rintro e w3 ⟨v, rfl, ⟨x, hx, rfl⟩, hc3, hg3⟩
      have hown3 := hown'.out.kept hg3 (hcr.ne hown'.out (by decide))
      have hgr3 := hg.trans hg3
      have hs3 := hgr3.size
      replace hcr := hide hcr
      have hz : x < 256 := hx
      have hzw : IntKind.u8.wrap ((x : Int)) = (x : Int) := IntWalk.u8_in _ (by omega)
      have hbz : bc (UInt8.ofNat (x)) = .int .u8 ((x : Int)) := (bc_ofNat _ hz).trans (int_eq (by omega))
      replace hbz := hide hbz
      go_wp2_with (at_builtin; refine wpList_push elemByte rfl (.tmp 31) (.tmp 34) w3 (.int .u8 ((x : Int))) rfl w.heap.size (.slice A' N d) N _ rfl rfl hown3 rfl (by omega) (by omega) ?_; intro A4 c4 w4 hown4 hg4 hat4)
      have hgr4 := grown_new hgr3 hg4 (fun b hb => (hown3.lt b hb).1)
      have hc4 := hc3.other hown3 (by decide) hBw hg4
      replace hc3 := hide hc3
      replace hc4 := hide hc4
      clear hat4
      go_wp2_with fail
      go_roundw
      case rel => first | exact ⟨k, N + 1, c4, A4, l ++ [UInt8.ofNat (x)], by omega, by go_num, rfl, own_snoc hown4 hbz.out, by omega, hc4.out, hgr4⟩ | ((repeat apply Exists.intro); exact ⟨⟨k, N + 1, c4, A4, l ++ [UInt8.ofNat (x)], by omega, by go_num, rfl, own_snoc hown4 hbz.out, by omega, hc4.out, hgr4⟩, rfl⟩)
      case measure => simp [intOf]
set_option maxRecDepth 100000 in
theorem drawVar (A : Option Addr) (n c : Nat) (zs : List Int) (w : World) (hr : Reads w w.heap.size A n (zs.map (Value.int .u8))) (hz : ∀ z ∈ zs, 0 ≤ z ∧ z ≤ 255) (hnb : n ≤ 1048576) :
    Calls Tryd.prog 28 #[.slice A n c] w fun e w' => ∃ x : Int, (-9223372036854775808 ≤ x ∧ x ≤ 9223372036854775807) ∧ e = .returned (.int .i64 x) ∧ Below w.heap.size w w' := by
  replace hz := hide hz
  go_enter Tryd.func28, Tryd.ntmps28
  go_wp2_with fail
  refine (l1new A n c zs _ hr hz.out hnb).mono ?_
  rintro e w1 ⟨g, rfl, hc1, hb1⟩
  go_wp2_with fail
  refine (l1num g _ A n c zs _ hc1).mono ?_
  rintro e w2 ⟨v, rfl, ⟨x, rfl, hx⟩, hc2, hg2⟩
  have hb2 := below_cur hb1 hc1 hg2
  go_wp2_with fail
  go_ret
  exact ⟨_, hx, rfl, hb2⟩
set_option maxRecDepth 100000 in
theorem drawHex (A : Option Addr) (n c : Nat) (zs : List Int) (w : World) (hr : Reads w w.heap.size A n (zs.map (Value.int .u8))) (hz : ∀ z ∈ zs, 0 ≤ z ∧ z ≤ 255) (hnb : n ≤ 1048576) :
    Calls Tryd.prog 29 #[.slice A n c] w fun e w' => ∃ l : List UInt8, l.length ≤ 40 ∧ e = .returned (str l) ∧ Below w.heap.size w w' := by
  replace hz := hide hz
  go_enter Tryd.func29, Tryd.ntmps29
  go_wp2_with fail
  refine (l1new A n c zs _ hr hz.out hnb).mono ?_
  rintro e w1 ⟨g, rfl, hc1, hb1⟩
  go_wp2_with fail
  refine (l1text 40 g _ A n c zs _ (by omega) hc1).mono ?_
  rintro e w2 ⟨l, rfl, hl, hc2, hg2⟩
  have hb2 := below_cur hb1 hc1 hg2
  go_wp2_with fail
  go_ret
  exact ⟨_, hl, rfl, hb2⟩
set_option maxRecDepth 100000 in
theorem drawFix (A : Option Addr) (n c : Nat) (zs : List Int) (w : World) (hr : Reads w w.heap.size A n (zs.map (Value.int .u8))) (hz : ∀ z ∈ zs, 0 ≤ z ∧ z ≤ 255) (hnb : n ≤ 1048576) :
    Calls Tryd.prog 32 #[.slice A n c] w fun e w' => ∃ x y : Int, (-9223372036854775808 ≤ x ∧ x ≤ 9223372036854775807) ∧ (-1 ≤ y ∧ y ≤ 8) ∧ e = .returned (.tuple #[.int .i64 x, .int .i64 y]) ∧ Below w.heap.size w w' := by
  replace hz := hide hz
  go_enter Tryd.func32, Tryd.ntmps32
  go_wp2_with fail
  refine (l1new A n c zs _ hr hz.out hnb).mono ?_
  rintro e w1 ⟨g, rfl, hc1, hb1⟩
  go_wp2_with fail
  refine (l1num g _ A n c zs _ hc1).mono ?_
  rintro e w2 ⟨v, rfl, ⟨x, rfl, hx⟩, hc2, hg2⟩
  have hb2 := below_cur hb1 hc1 hg2
  go_wp2_with fail
  refine (l1below g _ A n c zs 10 _ hc2).mono ?_
  rintro e w3 ⟨v, rfl, ⟨y, rfl, hy⟩, hc3, hg3⟩
  have hb3 := below_cur hb2 hc2 hg3
  have hy10 : (y : Int) < 10 := hy (by omega)
  have hwp : IntKind.i64.wrap ((y : Int) - 1) = (y : Int) - 1 := IntWalk.i64_in _ (by omega)
  replace hy := hide hy
  go_wp2_with fail
  refine bodyPost_ret (v := .tuple #[.int .i64 x, .int .i64 ((y : Int) - 1)]) (by simp [results, Tryd.results32, go_sem]) rfl ?_
  exact ⟨_, _, hx, ⟨by omega, by omega⟩, rfl, hb3⟩
end Go.Proofs.YtooiobcghobefaaDoor
