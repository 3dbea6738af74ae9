/-
  The walk of the law FnIntegerEncodings: it returns true: an encoded number is decoded again, whatever follows, and no other text is accepted.
  Conditions: the library's own variables hold what its text lays.
-/
import Derived.Test.YtooiobcghobefaaDoorIeQ
import Derived.Deep.Cut
namespace Go.Proofs.YtooiobcghobefaaDoor.lFnIntegerEncodings
open Go.RowKit
set_option linter.unusedVariables false

open Go.Lib
set_option maxHeartbeats 6400000 in
set_option maxRecDepth 100000 in
theorem walk (w : World) (A : Option Addr) (n c : Nat) (zs : List Int) (h : Reads w w.heap.size A n (zs.map (Value.int .u8)) ∧ ∀ z ∈ zs, 0 ≤ z ∧ z ≤ 255) (hm : Tabs w ∧ Errs w) :
    Calls Tryd.prog 8 #[.slice A n c] w (RetVal w (.bool true)) := by
  obtain ⟨ht, he⟩ := hm
  obtain ⟨hr, hz⟩ := h
  have hn := hr.bound
  replace hz := hide hz
  replace ht := hide ht
  replace he := hide he
  by_cases hbig : 1048576 < n
  · have d0 := hide (show decide ((1048576 : Int) < (n : Int)) = true by simp; omega)
    go_enter Tryd.func8, Tryd.ntmps8
    go_wp2_with (go_at_call 27; refine (lawBigE _ _ _ _ _ d0.out).mono ?_; rintro e w1 ⟨rfl, rfl⟩)
    go_ret
    exact ⟨rfl, Below.refl _ _⟩
  have hnb : n ≤ 1048576 := by omega
  have d0 := hide (show decide ((1048576 : Int) < (n : Int)) = false by simp; omega)
  clear hbig
  go_enter Tryd.func8, Tryd.ntmps8
  go_wp2_with (go_at_call 27; refine (lawBigE _ _ _ _ _ d0.out).mono ?_; rintro e w1 ⟨rfl, rfl⟩)
  refine (drawVar A n c zs _ hr hz.out hnb).mono ?_
  rintro e w1 ⟨x, hx, rfl, hb⟩
  go_wp2_with fail
  refine (drawHex A n c zs _ ((hr.below hb).more hb.size) hz.out hnb).mono ?_
  rintro e w2 ⟨t, htl, rfl, hb1⟩
  replace hb := below_call hb hb1
  clear hb1
  go_wp2_with fail
  refine (implVar x _).mono ?_
  rintro e w3 ⟨rfl, hb1⟩
  replace hb := below_call hb hb1
  clear hb1
  have hSl := varL_len x
  have hyes := hide (fun (N : Nat) (h1 : x = N) (h2 : N ≤ 562949953421311) => decV_var N t h2)
  have hnot := hide (fun (h1 : ¬ (0 ≤ x ∧ x ≤ 562949953421311)) => varL_no x h1)
  have hne := hide (fun (N : Nat) (h1 : x = N) (h2 : N ≤ 562949953421311) => varL_ne N h2)
  obtain ⟨S, hS⟩ : ∃ S, S = varL x := ⟨_, rfl⟩
  rw [← hS] at hSl ⊢
  have hadd : ∀ X : World, (binOp .add 9 (str S) (str t)).run Tryd.prog X = .ok (str (S ++ t)) X := fun X => str_add (P := Tryd.prog) 9 S t (by omega) X
  have hD := hide (fun X => implDecV (S ++ t) X (by rw [List.length_append]; omega))
  obtain ⟨p, q, hpq⟩ : ∃ p q, decV (S ++ t) = (p, q) := ⟨_, _, rfl⟩
  rw [hpq] at hD
  replace hpq := hide hpq
  replace hS := hide hS
  go_wp2_with fail
  refine (hD.out _).mono ?_
  rintro e w4 ⟨rfl, rfl⟩
  unfold decVV
  go_upto_region 7 with fail
  go_cut [57] from 19 (fun v wc => v = .bool false ∧ wc = w3)
  case first =>
    by_cases hin : 0 ≤ x ∧ x ≤ 562949953421311
    · obtain ⟨N, rfl⟩ : ∃ N : Nat, x = N := ⟨x.toNat, by omega⟩
      have e0 : decide ((0 : Int) ≤ (N : Int)) = true := by simp
      have e1 : decide ((N : Int) ≤ 562949953421311) = true := by simpa using hin.2
      have e2 : (S == []) = false := by rw [hS.out]; exact hne.out N rfl (by omega)
      have e3 := hyes.out N rfl (by omega)
      rw [← hS.out, hpq.out] at e3
      obtain ⟨rfl, rfl⟩ := Prod.mk.inj e3
      replace e3 := hide e3
      replace hx := hide hx
      clear hD hpq
      go_wp2_with fail
      go_meet
      case rel => exact ⟨rfl, rfl⟩
    · have e2 : (S == []) = true := by rw [hS.out, hnot.out hin]; rfl
      by_cases h0 : 0 ≤ x
      · have e0 : decide ((0 : Int) ≤ x) = true := by simpa using h0
        have e1 : decide (x ≤ 562949953421311) = false := by simp; omega
        go_wp2_with fail
        go_meet
        case rel => exact ⟨rfl, rfl⟩
      · have e0 : decide ((0 : Int) ≤ x) = false := by simpa using h0
        go_wp2_with fail
        go_meet
        case rel => exact ⟨rfl, rfl⟩
  case rest =>
    obtain ⟨rfl, rfl⟩ := hcut
    go_wp2_with fail
    refine (drawFix A n c zs _ ((hr.below hb).more hb.size) hz.out hnb).mono ?_
    rintro e w5 ⟨y, W, hy, hW, rfl, hb1⟩
    replace hb := below_call hb hb1
    clear hb1
    go_wp2_with fail
    refine (implFix y W _ hy.2).mono ?_
    rintro e w6 ⟨rfl, hb1⟩
    replace hb := below_call hb hb1
    clear hb1
    have hFl := fixA_len y W
    have hdec := hide (fun h1 => dec_fix y W t h1)
    have hsp := hide (fun X => specFix y W X hy.2)
    obtain ⟨f, hf⟩ : ∃ f, f = fixA y W := ⟨_, rfl⟩
    rw [← hf] at hFl hdec hsp ⊢
    have hadd2 : ∀ X : World, (binOp .add 9 (str f) (str t)).run Tryd.prog X = .ok (str (f ++ t)) X := fun X => str_add (P := Tryd.prog) 9 f t (by omega) X
    have hD2 := hide (fun X => implDecS (f ++ t) W X (by rw [List.length_append]; omega))
    obtain ⟨z, g, hzg⟩ := decA_form (f ++ t) W
    rw [hzg] at hD2
    replace hzg := hide hzg
    replace hf := hide hf
    go_wp2_with fail
    refine (hD2.out _).mono ?_
    rintro e w7 ⟨rfl, rfl⟩
    go_upto_region 12 with fail
    go_cut [99] from 19 (fun v wc => v = .bool false ∧ Below w6.heap.size w6 wc)
    case first =>
      rcases hf0 : (f == []) with _ | _
      · obtain ⟨e1, e2⟩ := hdec.out hf0
        rw [hzg.out] at e1
        have e3 : z = y ∧ g = true := by
          have := Array.toList_inj.2 (Value.tuple.inj e1)
          simp at this
          exact this
        obtain ⟨rfl, rfl⟩ := e3
        have e4 : (((f.length : Nat) : Int) != W) = false := by rw [e2]; simp
        replace e1 := hide e1
        replace e2 := hide e2
        clear hzg hD2
        go_wp2_with (go_at_call 35; refine (hsp.out _).mono ?_; rintro e w8 ⟨rfl, hb8⟩)
        go_meet
        case rel => exact ⟨rfl, hb8⟩
      · go_wp2_with (go_at_call 35; refine (hsp.out _).mono ?_; rintro e w8 ⟨rfl, hb8⟩)
        go_meet
        case rel => exact ⟨rfl, hb8⟩
    case rest =>
      obtain ⟨rfl, hb6⟩ := hcut
      replace hb := below_call hb hb6
      clear hb6
      go_wp2_with fail
      refine (implHexS t _ (by omega)).mono ?_
      rintro e w9 ⟨rfl, hb1⟩
      replace hb := below_call hb hb1
      clear hb1
      have hHl := hexL_length t
      have hU := hide (fun X => implUnhex (hexL t) X (by omega))
      have hV := hide (unhexV_some (unhex_hex t))
      obtain ⟨H, hH⟩ : ∃ H, H = hexL t := ⟨_, rfl⟩
      rw [← hH] at hHl hU hV ⊢
      replace hH := hide hH
      have e1 : (((H.length : Nat) : Int) == 2 * ((t.length : Nat) : Int)) = true := by simp; omega
      have e1' : (H.length == 2 * t.length) = true := by simp; omega
      replace hHl := hide hHl
      go_wp2_with fail
      refine (hU.out _).mono ?_
      rintro e w10 ⟨rfl, hb1⟩
      rw [hV.out]
      replace hb := below_call hb hb1
      clear hb1
      go_wp2_with fail
      refine (implItoa y _ hy.1 hy.2 (ht.out.below hb)).mono ?_
      rintro e w11 ⟨rfl, hb1⟩
      replace hb := below_call hb hb1
      clear hb1
      have hdl := itoa_le20 hy.1 hy.2
      have hP := hide (fun X (h1 : Tabs X) (h2 : Errs X) => implParI (itoa y) X (by omega) h1 h2)
      obtain ⟨hp1, hp2⟩ := par_ita y
      have hsi := hide (fun X => specItoa y X hy.1 hy.2)
      have hpv : parV (itoa y) = .tuple #[.int .i64 (parN (itoa y)), .bool (parG (itoa y))] := rfl
      rw [hp1] at hpv
      obtain ⟨d, hd⟩ : ∃ d, d = itoa y := ⟨_, rfl⟩
      obtain ⟨v, hv⟩ : ∃ v, v = parN (itoa y) := ⟨_, rfl⟩
      rw [← hv] at hpv hp2
      rw [← hd] at hdl hP hpv hsi ⊢
      replace hd := hide hd
      replace hv := hide hv
      replace hpv := hide hpv
      go_wp2_with fail
      refine (hP.out _ (ht.out.below hb) (he.out.below hb)).mono ?_
      rintro e w12 ⟨rfl, hb1⟩
      rw [hpv.out]
      replace hb := below_call hb hb1
      clear hb1
      by_cases h1 : -1000000000 < y
      · have f1 : decide ((-1000000000 : Int) < y) = true := by simpa using h1
        by_cases h2 : y < 1000000000
        · have f2 : decide (y < 1000000000) = true := by simpa using h2
          have hI : inP y = true := by unfold inP; simp; omega
          obtain rfl := hp2 hI
          rw [hI]
          replace hI := hide hI
          replace hp1 := hide hp1
          clear hp2
          go_wp2_with (go_at_call 14; refine (hsi.out _).mono ?_; rintro e w13 ⟨rfl, hb13⟩)
          go_ret
          exact ⟨ret_bool (by simp), below_call hb hb13⟩
        · have f2 : decide (y < 1000000000) = false := by simpa using h2
          have hI : inP y = false := by unfold inP; simp; omega
          rw [hI]
          replace hI := hide hI
          replace hp1 := hide hp1
          clear hp2
          go_wp2_with (go_at_call 14; refine (hsi.out _).mono ?_; rintro e w13 ⟨rfl, hb13⟩)
          go_ret
          exact ⟨ret_bool (by simp), below_call hb hb13⟩
      · have f1 : decide ((-1000000000 : Int) < y) = false := by simpa using h1
        have hI : inP y = false := by unfold inP; simp; omega
        rw [hI]
        replace hI := hide hI
        replace hp1 := hide hp1
        clear hp2
        go_wp2_with (go_at_call 14; refine (hsi.out _).mono ?_; rintro e w13 ⟨rfl, hb13⟩)
        go_ret
        exact ⟨ret_bool (by simp), below_call hb hb13⟩

end Go.Proofs.YtooiobcghobefaaDoor.lFnIntegerEncodings
