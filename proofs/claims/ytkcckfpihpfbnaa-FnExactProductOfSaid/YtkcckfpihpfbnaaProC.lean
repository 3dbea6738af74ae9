/-
  ProductOf of the reference.
  Conditions: as each theorem says.
-/
import Derived.Test.YtkcckfpihpfbnaaProI
import Derived.Test.YtkcckfpihpfbnaaRowsP
import Derived.Test.YtkcckfpihpfbnaaDist
namespace Go.Proofs.Ytkcckfpihpfbnaa
open Go.RowKit
set_option linter.unusedVariables false

theorem filter_take1 {zs : List Int} {k : Nat} {y : Int} (p : Int → Bool) (h : zs[k]? = some y) : (zs.take (k + 1)).filter p = (zs.take k).filter p ++ (if p y then [y] else []) := by
  rw [List.take_add_one, h, List.filter_append]
  simp only [Option.toList_some, List.filter_cons, List.filter_nil]
theorem lens_clsLP (S : Nat → Nat → Bool) (n i : Nat) : lens (clsL S n i) ≤ i * (n + 1) := by
  induction i with
  | zero => simp [clsL, lens]
  | succ i ih =>
    unfold clsL lens at ih ⊢
    rw [List.range_succ, List.flatMap_append, List.map_append, List.sum_append, Nat.succ_mul]
    have h1 := clsTo_len S i n
    have : (([i].flatMap fun a => if !tkB S a a && decide (1 < (clsTo S a n).length) then [clsTo S a n] else []).map List.length).sum ≤ n + 1 := by
      simp only [List.flatMap_cons, List.flatMap_nil, List.append_nil]
      split <;> simp
      exact h1
    omega
theorem proL_len (p q : List (List Int)) (rows : Int) : lens (proL p q rows) ≤ 2000 := by
  unfold proL
  split
  · rename_i hG
    rw [Bool.and_eq_true] at hG
    obtain ⟨_, r0, r40⟩ := prtB_parts hG.1
    have h1 := lens_clsLP (proS p q) rows.toNat rows.toNat
    have h2 : rows.toNat * (rows.toNat + 1) ≤ 40 * 41 := Nat.mul_le_mul (by omega) (by omega)
    omega
  · simp [lens]
set_option maxHeartbeats 3200000 in
set_option maxRecDepth 100000 in
theorem specPro_no (A B : Option Addr) (n c m d : Nat) (p q : List (List Int)) (rows : Int) (w : World) (hp : RowsAt w w.heap.size A n p) (hq : RowsAt w w.heap.size B m q) (hsp : n + lens p ≤ 1048576) (hsq : m + lens q ≤ 1048576) (hG : (prtB (rows - 1) rows p && prtB (rows - 1) rows q) = false) :
    Calls Try.prog 43 #[.slice A n c, .slice B m d, .int .i64 rows] w (RetRows w (proL p q rows)) := by
  have e := hide (show proL p q rows = [] by unfold proL; rw [hG]; rfl)
  obtain ⟨R, hR⟩ : ∃ R, IntKind.i64.wrap (rows - 1) = R := ⟨_, rfl⟩
  have hwp : prtB R rows p = prtB (rows - 1) rows p := by rw [← hR]; exact prtB_wrap rows p
  have hwq : prtB R rows q = prtB (rows - 1) rows q := by rw [← hR]; exact prtB_wrap rows q
  rw [← hwp, ← hwq] at hG
  have hR' := hide hR
  clear hR hwp hwq
  have hst := RowsU.start w 0
  obtain ⟨wb, hwb⟩ : ∃ wb, wb = w.alloc (.cells #[] 29) := ⟨_, rfl⟩
  have hb : Below w.heap.size w wb := by rw [hwb]; go_grown
  have hwb' := hide hwb
  rw [← hwb] at hst
  clear hwb
  replace hst := hide hst
  rcases h1 : prtB R rows p with _ | _
  · replace h1 := hide h1
    replace hG := hide hG
    go_enter Try.func43, Try.ntmps43
    go_wp2_with fail
    rw [← hwb'.out]
    refine (specIsP _ _ _ p rows R _ (hp.later hb) hsp hR'.out).mono ?_
    rintro e' w1 ⟨rfl, hb1⟩
    rw [h1.out]
    replace hst := hide (hst.out.below hb1)
    go_wp2_with fail
    go_ret
    exact ⟨_, 0, 0, rfl, by rw [e.out]; exact hst.out.own, below_call hb hb1⟩
  · have h2 : prtB R rows q = false := by rw [h1] at hG; simpa using hG
    replace h1 := hide h1
    replace h2 := hide h2
    replace hG := hide hG
    go_enter Try.func43, Try.ntmps43
    go_wp2_with fail
    rw [← hwb'.out]
    refine (specIsP _ _ _ p rows R _ (hp.later hb) hsp hR'.out).mono ?_
    rintro e' w1 ⟨rfl, hb1⟩
    rw [h1.out]
    replace hst := hide (hst.out.below hb1)
    replace hb := below_call hb hb1
    clear hb1
    go_wp2_with fail
    refine (specIsP _ _ _ q rows R _ (hq.later hb) hsq hR'.out).mono ?_
    rintro e' w2 ⟨rfl, hb1⟩
    rw [h2.out]
    replace hst := hide (hst.out.below hb1)
    go_wp2_with fail
    go_ret
    exact ⟨_, 0, 0, rfl, by rw [e.out]; exact hst.out.own, below_call hb hb1⟩
set_option maxHeartbeats 6400000 in
set_option maxRecDepth 100000 in
theorem specPro_yes (A B : Option Addr) (n c m d : Nat) (p q : List (List Int)) (N : Nat) (w : World) (hp : RowsAt w w.heap.size A n p) (hq : RowsAt w w.heap.size B m q) (hsp : n + lens p ≤ 1048576) (hsq : m + lens q ≤ 1048576) (h1 : prtB ((N : Int) - 1) N p = true) (h2 : prtB ((N : Int) - 1) N q = true) :
    Calls Try.prog 43 #[.slice A n c, .slice B m d, .int .i64 (N : Int)] w (RetRows w (proL p q N)) := by
  have e := hide (show proL p q N = clsL (proS p q) N N by unfold proL; rw [h1, h2]; rfl)
  obtain ⟨hPp, _, r40⟩ := prtB_parts h1
  obtain ⟨hPq, _, _⟩ := prtB_parts h2
  have n40 : N ≤ 40 := by omega
  obtain ⟨R, hR⟩ : ∃ R, IntKind.i64.wrap ((N : Int) - 1) = R := ⟨_, rfl⟩
  rw [← prtB_wrap, hR] at h1 h2
  have hR' := hide hR
  have lp := hp.1
  have lq := hq.1
  replace h1 := hide h1
  replace h2 := hide h2
  replace hPp := hide hPp
  replace hPq := hide hPq
  replace lp := hide lp
  replace lq := hide lq
  clear hR
  obtain ⟨wc, hwc⟩ : ∃ wc, wc = w.alloc (.cells #[] 29) := ⟨_, rfl⟩
  have hb : Below w.heap.size w wc := by rw [hwc]; go_grown
  have hwz : wc.heap.size = w.heap.size + 1 := by rw [hwc]; simp
  have hst := fun P => RowsP.start w P
  rw [← hwc] at hst
  have hwc' := hide hwc
  replace hst := hide hst
  clear hwc
  go_enter Try.func43, Try.ntmps43
  go_wp2_with fail
  rw [← hwc'.out]
  refine (specIsP _ _ _ p _ R _ (hp.later hb) hsp hR'.out).mono ?_
  rintro e' w1 ⟨rfl, hb1⟩
  rw [h1.out]
  have hst1 := hide (fun P => (hst.out P).below hb1)
  replace hb := below_call hb hb1
  have hz1 : w.heap.size + 1 ≤ w1.heap.size := by rw [← hwz]; exact hb1.size
  clear hb1 hst
  go_wp2_with fail
  refine (specIsP _ _ _ q _ R _ (hq.later hb) hsq hR'.out).mono ?_
  rintro e' w2 ⟨rfl, hb1⟩
  rw [h2.out]
  have hst2 := hide (fun P => (hst1.out P).below hb1)
  replace hb := below_call hb hb1
  have hz2 : w.heap.size + 1 ≤ w2.heap.size := Nat.le_trans hz1 hb1.size
  clear hb1 hst1 hwz hz1
  obtain ⟨wd, hwd⟩ : ∃ wd, wd = w2.alloc (.cells #[] 3) := ⟨_, rfl⟩
  have hR0 : RowsP wd w.heap.size (fun k => k < wd.heap.size ∧ (Value.slice (some ⟨w2.heap.size, 0, none⟩) 0 0).ownBlock ≠ some k) (some ⟨w.heap.size, 0, none⟩) 0 0 (clsL (proS p q) N 0) := by
    exact (hst2.out _).below (by rw [hwd]; go_grown)
  have hD0 : wd.ownsRow w.heap.size 3 1 (.slice (some ⟨w2.heap.size, 0, none⟩) 0 0) 0 ((proD p q N 0).map (Value.int .i64)) := by
    have := own_start w2 3
    rw [← hwd] at this
    exact own_more this hb.size
  have hbd : Below w.heap.size w wd := by rw [hwd]; exact hb.alloc hb.size _
  have hwd' := hide hwd
  clear hwd
  replace hR0 := hide hR0
  replace hD0 := hide hD0
  go_wp2_with fail
  rw [← hwd'.out]
  go_loopw [7, 8, 9, 10, 11, 12, 13] (fun out dn i _ _ _ _ wr => ∃ (k N1 d1 N2 d2 : Nat) (A' A2 : Option Addr), k ≤ N ∧ i = .int .i64 (k : Int) ∧ out = .slice A' N1 d1 ∧ dn = .slice A2 N2 d2 ∧ RowsP wr w.heap.size (fun k => k < wr.heap.size ∧ (Value.slice A2 N2 d2).ownBlock ≠ some k) A' N1 d1 (clsL (proS p q) N k) ∧ wr.ownsRow w.heap.size 3 1 (.slice A2 N2 d2) N2 ((proD p q N k).map (Value.int .i64)) ∧ Below w.heap.size w wr) (fun _ _ i _ _ _ _ _ => N - (intOf i).toNat)
  case atStart => exact ⟨0, 0, 0, 0, 0, _, _, by omega, rfl, rfl, rfl, hR0.out, hD0.out, hbd⟩
  case round =>
    clear hR0 hD0 hbd hb hst2 hwd'
    obtain ⟨k, N1, d1, N2, d2, A', A2, hkn, rfl, rfl, rfl, hR, hD, hb⟩ := hrel
    have hN : N1 ≤ 40 := by have g1 := hR.1; have g2 := clsL_len (proS p q) N k; omega
    have hN2 : N2 ≤ 2000 := by
      have g1 := own_len hD
      have g2 := proD_len p q N k
      have g3 : k * (N + 1) ≤ 40 * 41 := Nat.mul_le_mul (by omega) (by omega)
      rw [List.length_map] at g1
      omega
    by_cases hlt : k < N
    · have hp' := hp.later hb
      have hq' := hq.later hb
      have ca := l5class A n c p (k : Int) wr hp'
      have cb := l5class B m d q (k : Int) wr hq'
      have rD := Reads.of_own hD
      have hdn := proD_has (p := p) (q := q) hlt
      by_cases hab : 0 ≤ clsV p (k : Int) ∧ 0 ≤ clsV q (k : Int)
      · obtain ⟨ha0, hb0⟩ := hab
        obtain ⟨a, ha⟩ : ∃ a : Nat, clsV p (k : Int) = a := ⟨(clsV p (k : Int)).toNat, by omega⟩
        obtain ⟨b, hbv⟩ : ∃ b : Nat, clsV q (k : Int) = b := ⟨(clsV q (k : Int)).toNat, by omega⟩
        obtain ⟨zs, hz, hzm⟩ := cls_get ha
        obtain ⟨ys, hy, hym⟩ := cls_get hbv
        rw [ha] at ca
        rw [hbv] at cb
        rcases ht : tkB (proS p q) k k with _ | _
        · rw [ht] at hdn
          have hcls := hide (pro_class hPp.out hPq.out hlt ha hbv hz hy ht)
          have hDn := hide (proD_yes (n := N) ha0 hb0 ht)
          have ht' := hide ht
          replace hz := hide hz
          replace hy := hide hy
          have haN : a < n := by have g1 := (List.getElem?_eq_some_iff.1 hz.out).1; have g2 := lp.out; omega
          have hbN : b < m := by have g1 := (List.getElem?_eq_some_iff.1 hy.out).1; have g2 := lq.out; omega
          clear ht ha hbv ha0 hb0 hzm hym
          replace ca := hide ca
          replace cb := hide cb
          replace hR := hide hR
          replace hD := hide hD
          replace hdn := hide hdn
          obtain ⟨Hs, hHs⟩ : ∃ Hs, Hs = wr.heap.size := ⟨_, rfl⟩
          have hwH : w.heap.size ≤ Hs := by rw [hHs]; exact hb.size
          obtain ⟨P, hPP⟩ : ∃ P : Nat → Prop, P = fun k => k < Hs ∧ (Value.slice A2 N2 d2).ownBlock ≠ some k := ⟨_, rfl⟩
          have hc0 : (wr.alloc (.cells #[] 3)).ownsRow Hs 3 1 (.slice (some ⟨wr.heap.size, 0, none⟩) 0 0) 0 (((zs.take 0).filter (hasR ys)).map (Value.int .i64)) := by rw [hHs]; exact own_start wr _
          have hR0 : RowsP (wr.alloc (.cells #[] 3)) w.heap.size P A' N1 d1 (clsL (proS p q) N k) := by rw [hPP, hHs]; exact hR.out.below ((Below.refl _ _).alloc (Nat.le_refl _) _)
          have hD0 : (wr.alloc (.cells #[] 3)).ownsRow w.heap.size 3 1 (.slice A2 N2 d2) N2 ((proD p q N k).map (Value.int .i64)) := own_below hD.out ((Below.refl _ _).alloc (Nat.le_refl _) _)
          have hDH : ∀ g, (Value.slice A2 N2 d2).ownBlock = some g → g < Hs := fun g hg => by rw [hHs]; exact (hD.out.lt g hg).2
          have hbA : Below w.heap.size w (wr.alloc (.cells #[] 3)) := hb.alloc hb.size _
          replace hc0 := hide hc0
          replace hR0 := hide hR0
          replace hD0 := hide hD0
          replace hHs := hide hHs
          replace hDH := hide hDH
          replace hPP := hide hPP
          have a0 : decide ((a : Int) < 0) = false := by simp
          have b0 : decide ((b : Int) < 0) = false := by simp
          clear hp' hq'
          go_wp2_with (first
            | (go_at_call_of 96 (Value.slice A n c); refine ca.out.mono ?_; rintro e w3 ⟨rfl, rfl⟩)
            | (go_at_call_of 96 (Value.slice B m d); refine cb.out.mono ?_; rintro e w3 ⟨rfl, rfl⟩)
            | (go_at_call 97; refine (l2has _ _ _ _ (k : Int) _ rD).mono ?_; rintro e w3 ⟨rfl, rfl⟩; rw [hdn.out]))
          go_loopw [12, 13] (fun cl j wq => ∃ (t N3 d3 : Nat) (A3 : Option Addr), t ≤ zs.length ∧ j = .int .i64 (t : Int) ∧ cl = .slice A3 N3 d3 ∧ wq.ownsRow Hs 3 1 (.slice A3 N3 d3) N3 (((zs.take t).filter (hasR ys)).map (Value.int .i64)) ∧ RowsP wq w.heap.size P A' N1 d1 (clsL (proS p q) N k) ∧ wq.ownsRow w.heap.size 3 1 (.slice A2 N2 d2) N2 ((proD p q N k).map (Value.int .i64)) ∧ Below w.heap.size w wq ∧ Hs ≤ wq.heap.size) (fun _ j _ => zs.length - (intOf j).toNat)
          case atStart => exact ⟨0, 0, 0, _, by omega, by go_num, rfl, hc0.out, hR0.out, hD0.out, hbA, by rw [hHs.out]; simp⟩
          case round =>
            clear hc0 hR0 hD0 hbA hb hR hD hHs rD ca cb
            obtain ⟨t, N3, d3, A3, htl, rfl, rfl, hc, hR, hD, hb, hHz⟩ := hrel
            have hp' := hp.later hb
            have hq' := hq.later hb
            obtain ⟨b5, o5, zs', A5, c5, e5, hbb5, hz5, hc5, hr5⟩ := at_row hp' haN
            obtain ⟨b6, o6, ys', A6, c6, e6, hbb6, hy6, hc6, hr6⟩ := at_row hq' hbN
            subst e5
            subst e6
            rw [hz.out] at hz5
            cases hz5
            rw [hy.out] at hy6
            cases hy6
            have hzl : zs.length ≤ 1048576 := by
              have g1 := lens_take_succ hz.out
              have g2 := lens_take_le p (a + 1)
              omega
            have hN3 : N3 ≤ 1048576 := by
              have g1 := own_len hc
              rw [List.length_map] at g1
              have g2 := List.length_filter_le (hasR ys) (zs.take t)
              rw [List.length_take] at g2
              omega
            by_cases htz : t < zs.length
            · obtain ⟨b7, o7, x, e7, hbb7, hx, hc7⟩ := at_int hr5 htz
              subst e7
              have hstep := hide (filter_take1 (hasR ys) hx)
              have hcall : ∀ z, Calls Try.prog 97 #[.slice A6 ys.length c6, .int .i64 x] (wr.drewN z) fun e w'' => e = .returned (.bool (hasR ys x)) ∧ ∃ m, w'' = wr.drewN m := fun z =>
                Calls.quiet_of ((l2has A6 ys.length c6 ys x (wr.drewN z) hr6).mono fun e w' ⟨g1, g2⟩ => ⟨g1, 0, g2.symm⟩)
              replace hx := hide hx
              replace hc := hide hc
              replace hR := hide hR
              replace hD := hide hD
              clear hr6 hr5 hp' hq'
              rcases hh : hasR ys x with _ | _
              · rw [hh] at hcall hstep
                clear hh
                replace hcall := hide hcall
                go_wp2_with fail
                go_quiet ((go_at_call 97; exact hcall.out _))
                go_wp2_with fail
                go_roundw
                case rel => exact ⟨t + 1, N3, d3, A3, by omega, by go_num, rfl, by rw [hstep.out, if_neg (by simp), List.append_nil]; exact hc.out, hR.out, hD.out, below_drewN hb _, hHz⟩
                case measure => simp [intOf]; omega
              · rw [hh] at hcall hstep
                clear hh
                replace hcall := hide hcall
                go_wp2_with fail
                go_quiet ((go_at_call 97; exact hcall.out _))
                have hcS : (wr.drewN nq).ownsRow Hs 3 1 (.slice A3 N3 d3) N3 (((zs.take t).filter (hasR ys)).map (Value.int .i64)) := hc.out
                have hRS : RowsP (wr.drewN nq) w.heap.size P A' N1 d1 (clsL (proS p q) N k) := hR.out
                have hDS : (wr.drewN nq).ownsRow w.heap.size 3 1 (.slice A2 N2 d2) N2 ((proD p q N k).map (Value.int .i64)) := hD.out
                replace hRS := hide hRS
                replace hDS := hide hDS
                go_wp2_with (at_builtin; refine wpList_push elemInt rfl (.tmp 71) (.tmp 79) (wr.drewN nq) (.int .i64 x) rfl Hs (.slice A3 N3 d3) N3 _ rfl rfl hcS rfl (by omega) hHz ?_; intro A4 c4 w4 hown4 hg4 hat4)
                have hb5 := below_push (below_drewN hb nq) hb.size (own_more hcS hwH) hg4
                have hR5 := hRS.out.other hcS (by decide) (.inr (fun g hg hPg => by rw [hPP.out] at hPg; have := (hcS.lt g hg).1; have := hPg.1; omega)) hg4
                have hD5 := World.ownsRow.kept hDS.out hg4 (by
                  rcases hq0 : (Value.slice A2 N2 d2).ownBlock with _ | g
                  · exact .inl rfl
                  · refine .inr fun he => ?_
                    have h1 := hDH.out g hq0
                    have h2 := (hcS.lt g he.symm).1
                    omega)
                have hH5 : Hs ≤ w4.heap.size := Nat.le_trans hHz (by have := hg4.size; simpa using this)
                clear hat4
                replace hR5 := hide hR5
                replace hD5 := hide hD5
                go_roundw
                case rel => exact ⟨t + 1, N3 + 1, c4, A4, by omega, by go_num, rfl, by rw [hstep.out, List.map_append]; exact hown4, hR5.out, hD5.out, hb5, hH5⟩
                case measure => simp [intOf]; omega
            · obtain rfl : t = zs.length := by omega
              rw [List.take_length, hcls.out] at hc
              have lc : (clsTo (proS p q) k N).length = N3 := by have := own_len hc; simpa using this
              have lp0 := clsTo_pos (proS p q) k N
              have hclt : ∀ g, (Value.slice A3 N3 d3).ownBlock = some g → Hs ≤ g := fun g hg => (hc.lt g hg).1
              have hrc := Reads.of_own hc
              have hoc := hide (show ∀ u ∈ (clsTo (proS p q) k N).map (Value.int .i64), u.oneCell' = true from fun u hu => by obtain ⟨x, _, rfl⟩ := List.mem_map.1 hu; rfl)
              have h3pos : 0 < N3 := by omega
              replace lc := hide lc
              replace hclt := hide hclt
              replace hc := hide hc
              replace hR := hide hR
              clear lp0 hr5 hr6 hp' hq'
              have hN3' : N3 ≤ 41 := by have := lc.out; have := clsTo_len (proS p q) k N; omega
              have fin : ∀ (w6 : World) (A6 : Option Addr) (c6 : Nat), wr.grownBy w6 (Value.slice A2 N2 d2).ownBlock → ((Value.slice A6 (N2 + N3) c6).ownBlock = (Value.slice A2 N2 d2).ownBlock ∨ (Value.slice A6 (N2 + N3) c6).ownBlock = some wr.heap.size) → ∀ g, P g ∨ (Value.slice A3 N3 d3).ownBlock = some g → (Value.slice A6 (N2 + N3) c6).ownBlock ≠ some g := by
                intro w6 A6 c6 hg6 hat6 g hPg he
                rcases hat6 with h6 | h6
                · rw [h6] at he
                  rcases hPg with hPg | hPg
                  · rw [hPP.out] at hPg; exact hPg.2 he
                  · have h3 := hDH.out g he
                    have h4 := hclt.out g hPg
                    omega
                · rw [h6] at he
                  have he2 := Option.some.inj he
                  rcases hPg with hPg | hPg
                  · rw [hPP.out] at hPg
                    have := hPg.1
                    omega
                  · have := (hc.out.lt g hPg).2
                    omega
              replace fin := hide fin
              by_cases h1 : 1 < N3
              · have dd1 : decide ((1 : Int) < (N3 : Int)) = true := by simp; omega
                have dd1' : decide (1 < N3) = true := by simp; omega
                have hstep := hide (clsL_yes (n := N) ht'.out (by rw [lc.out]; exact h1))
                have hcne : ∀ w6 : World, ∀ (g6 : wr.grownBy w6 (Value.slice A2 N2 d2).ownBlock), w6.ownsRow Hs 3 1 (.slice A3 N3 d3) N3 ((clsTo (proS p q) k N).map (Value.int .i64)) := fun w6 g6 => World.ownsRow.kept hc.out g6 (by
                  rcases hq0 : (Value.slice A3 N3 d3).ownBlock with _ | g
                  · exact .inl rfl
                  · refine .inr fun he => ?_
                    have h1 := hDH.out g he.symm
                    have h2 := hclt.out g hq0
                    omega)
                replace hcne := hide hcne
                have hRne : ∀ w6 : World, ∀ (g6 : wr.grownBy w6 (Value.slice A2 N2 d2).ownBlock), RowsP w6 w.heap.size P A' N1 d1 (clsL (proS p q) N k) := fun w6 g6 => hR.out.other hD (by decide) (.inr (fun g hg hPg => by rw [hPP.out] at hPg; exact hPg.2 hg)) g6
                replace hRne := hide hRne
                go_wp2_with (first
                  | (at_builtin; refine wpList_spread1 elemInt rfl (.tmp 81) (.tmp 82) wr A3 N3 d3 _ hrc h3pos rfl w.heap.size (.slice A2 N2 d2) N2 _ rfl rfl hD hoc.out (by omega) hb.size ?_; intro A6 c6 w6 hown6 hg6 hat6; have hR6 := hRne.out w6 hg6; have hc6' := hide (hcne.out w6 hg6); have hb6 := below_push hb hb.size hD hg6; obtain ⟨lz, vs, hV⟩ := hR6; have hV1 := hV.1; have hfin := hide (fin.out w6 A6 c6 hg6 hat6); replace hV := hide hV; replace lz := hide lz; have hD6 := hide hown6; clear hat6 hown6)
                  | (at_builtin; refine wpList_push elemS rfl (.tmp 87) (.tmp 89) w6 (.slice A3 N3 d3) rfl w.heap.size (.slice A' N1 d1) N1 _ rfl rfl hV1 rfl (by omega) hb6.size ?_; intro A4 c4 w4 hown4 hg4 hat4))
                have hR7 := RowsP.push lz.out hV.out (own_more hc6'.out hwH) (fun g hg hPg => by rw [hPP.out] at hPg; have := hclt.out g hg; have := hPg.1; omega) hown4 hg4
                have hD7 := World.ownsRow.kept hD6.out hg4 (own_types hD6.out hV1 (by decide))
                have hb7 := below_push hb6 hb6.size hV1 hg4
                have hRn : RowsP w4 w.heap.size (fun g => g < w4.heap.size ∧ (Value.slice A6 (N2 + N3) c6).ownBlock ≠ some g) A4 (N1 + 1) c4 (clsL (proS p q) N k ++ [clsTo (proS p q) k N]) := hR7.weak fun g hgl hPg => ⟨hgl, hfin.out g hPg⟩
                clear hat4 hown4 hR7 hV1
                replace hRn := hide hRn
                replace hD7 := hide hD7
                go_roundw
                case rel => exact ⟨k + 1, N1 + 1, c4, N2 + N3, c6, A4, A6, by omega, by go_num, rfl, rfl, by rw [hstep.out]; exact hRn.out, by rw [hDn.out, List.map_append]; exact hD7.out, hb7⟩
                case measure => simp [intOf]; omega
              · have dd1 : decide ((1 : Int) < (N3 : Int)) = false := by simp; omega
                have dd1' : decide (1 < N3) = false := by simp; omega
                have hstep := hide (clsL_one (S := proS p q) (n := N) (i := k) (by rw [lc.out]; exact h1))
                go_wp2_with (at_builtin; refine wpList_spread1 elemInt rfl (.tmp 81) (.tmp 82) wr A3 N3 d3 _ hrc h3pos rfl w.heap.size (.slice A2 N2 d2) N2 _ rfl rfl hD hoc.out (by omega) hb.size ?_; intro A6 c6 w6 hown6 hg6 hat6)
                have hR6 := hR.out.other hD (by decide) (.inr (fun g hg hPg => by rw [hPP.out] at hPg; exact hPg.2 hg)) hg6
                have hb6 := below_push hb hb.size hD hg6
                have hfin := hide (fin.out w6 A6 c6 hg6 hat6)
                have hRn : RowsP w6 w.heap.size (fun g => g < w6.heap.size ∧ (Value.slice A6 (N2 + N3) c6).ownBlock ≠ some g) A' N1 d1 (clsL (proS p q) N k) := hR6.weak fun g hgl hPg => ⟨hgl, hfin.out g (.inl hPg)⟩
                have hD6 := hide hown6
                clear hat6 hD hown6 hrc
                replace hRn := hide hRn
                go_wp2_with fail
                go_roundw
                case rel => exact ⟨k + 1, N1, d1, N2 + N3, c6, A', A6, by omega, by go_num, rfl, rfl, by rw [hstep.out]; exact hRn.out, by rw [hDn.out, List.map_append]; exact hD6.out, hb6⟩
                case measure => simp [intOf]; omega
        · rw [ht] at hdn
          have hsk := hide (clsL_skip (n := N) ht)
          have hDn := hide (proD_no (n := N) (show ¬ (0 ≤ clsV p (k : Int) ∧ 0 ≤ clsV q (k : Int) ∧ tkB (proS p q) k k = false) by rw [ht]; simp))
          clear ht ha hbv ha0 hb0 hzm hym hz hy
          have a0 : decide ((a : Int) < 0) = false := by simp
          have b0 : decide ((b : Int) < 0) = false := by simp
          replace ca := hide ca
          replace cb := hide cb
          replace hR := hide hR
          replace hD := hide hD
          replace hdn := hide hdn
          clear hp' hq'
          go_wp2_with (first
            | (go_at_call_of 96 (Value.slice A n c); refine ca.out.mono ?_; rintro e w3 ⟨rfl, rfl⟩)
            | (go_at_call_of 96 (Value.slice B m d); refine cb.out.mono ?_; rintro e w3 ⟨rfl, rfl⟩)
            | (go_at_call 97; refine (l2has _ _ _ _ (k : Int) _ rD).mono ?_; rintro e w3 ⟨rfl, rfl⟩; rw [hdn.out]))
          go_roundw
          case rel => exact ⟨k + 1, N1, d1, N2, d2, A', A2, by omega, by go_num, rfl, rfl, by rw [hsk.out]; exact hR.out, by rw [hDn.out]; exact hD.out, hb⟩
          case measure => simp [intOf]; omega
      · have hsk := hide (clsL_one (S := proS p q) (n := N) (i := k) (clsTo_one hab))
        have hDn := hide (proD_no (n := N) (show ¬ (0 ≤ clsV p (k : Int) ∧ 0 ≤ clsV q (k : Int) ∧ tkB (proS p q) k k = false) from fun hh => hab ⟨hh.1, hh.2.1⟩))
        have hcase : decide (clsV p (k : Int) < 0) = true ∨ (decide (clsV p (k : Int) < 0) = false ∧ decide (clsV q (k : Int) < 0) = true) := by
          by_cases g : clsV p (k : Int) < 0
          · exact .inl (by simpa using g)
          · refine .inr ⟨by simpa using g, ?_⟩
            have : clsV q (k : Int) < 0 := by omega
            simpa using this
        generalize clsV p (k : Int) = a at ca hcase
        generalize clsV q (k : Int) = b at cb hcase
        clear hab hdn hp' hq'
        replace ca := hide ca
        replace cb := hide cb
        replace hR := hide hR
        replace hD := hide hD
        rcases hcase with a0 | ⟨a0, b0⟩
        · go_wp2_with (first
            | (go_at_call_of 96 (Value.slice A n c); refine ca.out.mono ?_; rintro e w3 ⟨rfl, rfl⟩)
            | (go_at_call_of 96 (Value.slice B m d); refine cb.out.mono ?_; rintro e w3 ⟨rfl, rfl⟩))
          go_roundw
          case rel => exact ⟨k + 1, N1, d1, N2, d2, A', A2, by omega, by go_num, rfl, rfl, by rw [hsk.out]; exact hR.out, by rw [hDn.out]; exact hD.out, hb⟩
          case measure => simp [intOf]; omega
        · go_wp2_with (first
            | (go_at_call_of 96 (Value.slice A n c); refine ca.out.mono ?_; rintro e w3 ⟨rfl, rfl⟩)
            | (go_at_call_of 96 (Value.slice B m d); refine cb.out.mono ?_; rintro e w3 ⟨rfl, rfl⟩))
          go_roundw
          case rel => exact ⟨k + 1, N1, d1, N2, d2, A', A2, by omega, by go_num, rfl, rfl, by rw [hsk.out]; exact hR.out, by rw [hDn.out]; exact hD.out, hb⟩
          case measure => simp [intOf]; omega
    · obtain rfl : k = N := by omega
      replace hR := hide hR
      replace hD := hide hD
      go_wp2_with fail
      go_ret
      exact ⟨A', N1, d1, rfl, by rw [e.out]; exact hR.out.own, hb⟩
theorem specPro (A B : Option Addr) (n c m d : Nat) (p q : List (List Int)) (rows : Int) (w : World) (hp : RowsAt w w.heap.size A n p) (hq : RowsAt w w.heap.size B m q) (hsp : n + lens p ≤ 1048576) (hsq : m + lens q ≤ 1048576) :
    Calls Try.prog 43 #[.slice A n c, .slice B m d, .int .i64 rows] w (RetRows w (proL p q rows)) := by
  rcases hG : (prtB (rows - 1) rows p && prtB (rows - 1) rows q) with _ | _
  · exact specPro_no _ _ _ _ _ _ _ _ _ _ hp hq hsp hsq hG
  · rw [Bool.and_eq_true] at hG
    obtain ⟨_, r0, _⟩ := prtB_parts hG.1
    obtain ⟨N, rfl⟩ : ∃ N : Nat, rows = N := ⟨rows.toNat, by omega⟩
    exact specPro_yes _ _ _ _ _ _ _ _ _ _ hp hq hsp hsq hG.1 hG.2
end Go.Proofs.Ytkcckfpihpfbnaa
