/-
  Walks of IsFiner, in the program and in the reference.
  Conditions: as each theorem says.
-/
import Derived.Test.YtgoggljmifjlfaaPart
namespace Go.Proofs.Ytgoggljmifjlfaa
open Go.RowKit
set_option linter.unusedVariables false

def finB (q : List (List Int)) (f r : Int) : Bool := decide (0 ≤ clsV q r) && (clsV q r == clsV q f)
def finRowB (q : List (List Int)) (zs : List Int) : Bool := decide (0 < q.length) && zs.all (finB q (zs.headD 0))
def finAll (p q : List (List Int)) : Bool := p.all (finRowB q)
theorem fin_bad {q : List (List Int)} {p : List (List Int)} {k j : Nat} {zs : List Int} {x : Int} (hz : p[k]? = some zs) (hx : zs[j]? = some x) (h : finB q (zs.headD 0) x = false) : finAll p q = false :=
  all_bad hz (by rw [finRowB, all_bad hx h, Bool.and_false])
theorem fin_nil {q p : List (List Int)} {k : Nat} {zs : List Int} (hz : p[k]? = some zs) (hq : q.length = 0) : finAll p q = false :=
  all_bad hz (by rw [finRowB, hq]; rfl)
theorem fin_row {q : List (List Int)} {zs : List Int} (hq : 0 < q.length) (h : zs.all (finB q (zs.headD 0)) = true) : finRowB q zs = true := by
  rw [finRowB, h]; simp; exact hq
theorem head_at {zs : List Int} {x : Int} (h : zs[0]? = some x) : zs.headD 0 = x := by
  cases zs with
  | nil => simp at h
  | cons a l => simpa using h

set_option maxHeartbeats 1600000 in
set_option maxRecDepth 100000 in
theorem specFin (A B : Option Addr) (n c m d : Nat) (p q : List (List Int)) (w : World) (hp : RowsAt w w.heap.size A n p) (hq : RowsAt w w.heap.size B m q) :
    Calls Try.prog 44 #[.slice A n c, .slice B m d] w fun e w' => e = .returned (.bool (finAll p q)) ∧ w = w' := by
  have hn := rows_bound hp
  have hm := rows_bound hq
  have lp := hide hp.1
  have lq := hide hq.1
  replace hq := hide hq
  go_enter Try.func44, Try.ntmps44
  go_wp2_with fail
  go_loop [5, 6, 7] (fun i _ _ => ∃ k : Nat, k ≤ n ∧ i = .int .i64 (k : Int) ∧ (p.take k).all (finRowB q) = true) (fun i _ _ => n - (intOf i).toNat)
  case atStart => exact ⟨0, by omega, rfl, by simp⟩
  case round =>
    obtain ⟨k, hk, rfl, hall⟩ := hrel
    by_cases hlt : k < n
    · obtain ⟨b, o, zs, A', c', rfl, hbb, hz1, hc1, hr⟩ := at_row hp hlt
      by_cases hm0 : m = 0
      · have e := hide (fin_nil (q := q) hz1 (by rw [lq.out]; exact hm0))
        have d1 : ((m : Int) == 0) = true := by rw [beq_iff_eq]; omega
        clear hall hz1 hp hr hm0
        go_wp2_with fail
        go_ret
        exact ⟨ret_bool e.out.symm, rfl⟩
      · have hq0 : 0 < q.length := by rw [lq.out]; omega
        have d1 : ((m : Int) == 0) = false := by rw [beq_eq_false_iff_ne]; omega
        have hzb := hr.bound
        replace hq0 := hide hq0
        replace hall := hide hall
        replace hz1 := hide hz1
        clear hm0 hp
        go_wp2_with fail
        go_loop [6, 7] (fun j _ => ∃ q' : Nat, q' ≤ zs.length ∧ j = .int .i64 (q' : Int) ∧ (zs.take q').all (finB q (zs.headD 0)) = true) (fun j _ => zs.length - (intOf j).toNat)
        case atStart => exact ⟨0, by omega, rfl, by simp⟩
        case round =>
          obtain ⟨j, hj, rfl, hin⟩ := hrel
          by_cases hjl : j < zs.length
          · obtain ⟨b1, o1, x0, rfl, hb1, hx0, hc0⟩ := at_int hr (show 0 < zs.length by omega)
            obtain ⟨b2, o2, x, hA, hb2, hx1, hc2⟩ := at_int hr hjl
            injection hA with hA
            injection hA with e1 e2
            subst e1 e2
            rw [Nat.add_zero] at hc0
            have hh := head_at hx0
            rcases hf : finB q (zs.headD 0) x with _ | _
            · have e := hide (fin_bad hz1.out hx1 hf)
              rw [hh] at hf
              clear hin hr hx0 hx1 hh
              by_cases hneg : clsV q x < 0
              · clear hf
                go_wp2_with (go_at_call 65; refine (l5class _ _ _ _ _ _ hq.out).mono ?_; rintro e w' ⟨rfl, rfl⟩)
                go_ret
                exact ⟨ret_bool e.out.symm, rfl⟩
              · have hne : (clsV q x != clsV q x0) = true := by
                  unfold finB at hf
                  rw [show decide (0 ≤ clsV q x) = true by simp; omega, Bool.true_and] at hf
                  rw [bne, hf]; rfl
                clear hf
                go_wp2_with (go_at_call 65; refine (l5class _ _ _ _ _ _ hq.out).mono ?_; rintro e w' ⟨rfl, rfl⟩)
                go_ret
                exact ⟨ret_bool e.out.symm, rfl⟩
            · have e := hide (all_take_succ hin hx1 hf)
              rw [hh] at hf
              unfold finB at hf
              rw [Bool.and_eq_true, decide_eq_true_eq] at hf
              obtain ⟨hge, hee⟩ := hf
              have hne : (clsV q x != clsV q x0) = false := by rw [bne, hee]; rfl
              clear hin hr hx0 hx1 hh hee
              go_wp2_with (go_at_call 65; refine (l5class _ _ _ _ _ _ hq.out).mono ?_; rintro e w' ⟨rfl, rfl⟩)
              go_round
              case rel => exact ⟨j + 1, by omega, by go_num, e.out⟩
              case measure => simp [intOf]; omega
          · obtain rfl : j = zs.length := by omega
            rw [List.take_length] at hin
            have e := hide (all_take_succ hall.out hz1.out (fin_row hq0.out hin))
            clear hin hr
            go_wp2_with fail
            go_round
            case rel => exact ⟨k + 1, by omega, by go_num, e.out⟩
            case measure => simp [intOf]; omega
    · obtain rfl : k = n := by omega
      have e := hide (show finAll p q = true from all_whole hall (by rw [lp.out]; exact Nat.le_refl _))
      clear hall hp
      go_wp2_with fail
      go_ret
      exact ⟨ret_bool e.out.symm, rfl⟩
set_option maxHeartbeats 1600000 in
set_option maxRecDepth 100000 in
theorem implFin (A B : Option Addr) (n c m d : Nat) (p q : List (List Int)) (w : World) (hp : RowsAt w w.heap.size A n p) (hq : RowsAt w w.heap.size B m q) :
    Calls Try.prog 45 #[.slice A n c, .slice B m d] w fun e w' => e = .returned (.bool (finAll p q)) ∧ w = w' := by
  have hn := rows_bound hp
  have hm := rows_bound hq
  have lp := hide hp.1
  have lq := hide hq.1
  replace hq := hide hq
  go_enter Try.func45, Try.ntmps45
  go_wp2_with fail
  go_loop [6, 8, 9, 12] (fun _ _ _ i => ∃ k : Nat, k ≤ n ∧ i = .int .i64 (k : Int) ∧ (p.take k).all (finRowB q) = true) (fun _ _ _ i => n - (intOf i).toNat)
  case atStart => exact ⟨0, by omega, rfl, by simp⟩
  case round =>
    obtain ⟨k, hk, rfl, hall⟩ := hrel
    by_cases hlt : k < n
    · obtain ⟨b, o, zs, A', c', rfl, hbb, hz1, hc1, hr⟩ := at_row hp hlt
      by_cases hm0 : m = 0
      · have e := hide (fin_nil (q := q) hz1 (by rw [lq.out]; exact hm0))
        have d1 : ((m : Int) == 0) = true := by rw [beq_iff_eq]; omega
        clear hall hz1 hp hr hm0
        go_wp2_with fail
        go_ret
        exact ⟨ret_bool e.out.symm, rfl⟩
      · have hq0 : 0 < q.length := by rw [lq.out]; omega
        have d1 : ((m : Int) == 0) = false := by rw [beq_eq_false_iff_ne]; omega
        have hzb := hr.bound
        replace hq0 := hide hq0
        replace hall := hide hall
        replace hz1 := hide hz1
        clear hm0 hp
        go_wp2_with fail
        go_loop [8, 9, 21] (fun _ _ j => ∃ q' : Nat, q' ≤ zs.length ∧ j = .int .i64 (q' : Int) ∧ (zs.take q').all (finB q (zs.headD 0)) = true) (fun _ _ j => zs.length - (intOf j).toNat)
        case atStart => exact ⟨0, by omega, rfl, by simp⟩
        case round =>
          obtain ⟨j, hj, rfl, hin⟩ := hrel
          by_cases hjl : j < zs.length
          · obtain ⟨b1, o1, x0, rfl, hb1, hx0, hc0⟩ := at_int hr (show 0 < zs.length by omega)
            obtain ⟨b2, o2, x, hA, hb2, hx1, hc2⟩ := at_int hr hjl
            injection hA with hA
            injection hA with e1 e2
            subst e1 e2
            rw [Nat.add_zero] at hc0
            have hh := head_at hx0
            rcases hf : finB q (zs.headD 0) x with _ | _
            · have e := hide (fin_bad hz1.out hx1 hf)
              rw [hh] at hf
              clear hin hr hx0 hx1 hh
              by_cases hneg : clsV q x < 0
              · clear hf
                go_wp2_with (go_at_call 62; refine (ownerof _ _ _ _ _ _ hq.out).mono ?_; rintro e w' ⟨rfl, rfl⟩)
                go_ret
                exact ⟨ret_bool e.out.symm, rfl⟩
              · have hne : (clsV q x != clsV q x0) = true := by
                  unfold finB at hf
                  rw [show decide (0 ≤ clsV q x) = true by simp; omega, Bool.true_and] at hf
                  rw [bne, hf]; rfl
                clear hf
                go_wp2_with (go_at_call 62; refine (ownerof _ _ _ _ _ _ hq.out).mono ?_; rintro e w' ⟨rfl, rfl⟩)
                go_ret
                exact ⟨ret_bool e.out.symm, rfl⟩
            · have e := hide (all_take_succ hin hx1 hf)
              rw [hh] at hf
              unfold finB at hf
              rw [Bool.and_eq_true, decide_eq_true_eq] at hf
              obtain ⟨hge, hee⟩ := hf
              have hne : (clsV q x != clsV q x0) = false := by rw [bne, hee]; rfl
              clear hin hr hx0 hx1 hh hee
              go_wp2_with (go_at_call 62; refine (ownerof _ _ _ _ _ _ hq.out).mono ?_; rintro e w' ⟨rfl, rfl⟩)
              go_round
              case rel => exact ⟨j + 1, by omega, by go_num, e.out⟩
              case measure => simp [intOf]; omega
          · obtain rfl : j = zs.length := by omega
            rw [List.take_length] at hin
            have e := hide (all_take_succ hall.out hz1.out (fin_row hq0.out hin))
            clear hin hr
            go_wp2_with fail
            go_round
            case rel => exact ⟨k + 1, by omega, by go_num, e.out⟩
            case measure => simp [intOf]; omega
    · obtain rfl : k = n := by omega
      have e := hide (show finAll p q = true from all_whole hall (by rw [lp.out]; exact Nat.le_refl _))
      clear hall hp
      go_wp2_with fail
      go_ret
      exact ⟨ret_bool e.out.symm, rfl⟩
end Go.Proofs.Ytgoggljmifjlfaa
