/-
  The walk of the law FnTables: it returns true: a table's text is read again, equal; projections have no row twice; columns are as the reference says.
  Conditions: the library's own variables hold what its text lays.
-/
import Derived.Test.YtooiobcghobefaaGreatDoorPtI
import Derived.Test.YtooiobcghobefaaGreatDoorPjI
import Derived.Test.YtooiobcghobefaaGreatDoorCol
import Derived.Test.YtooiobcghobefaaGreatDoorEqF
import Derived.Test.YtooiobcghobefaaGreatDoorDraw7
import Derived.Deep.RegionHeld3
import Derived.Deep.Cut
namespace Go.Proofs.YtooiobcghobefaaGreatDoor
open Go.RowKit
set_option linter.unusedVariables false

set_option maxHeartbeats 1600000 in
set_option maxRecDepth 100000 in
theorem implEqT (m1 m2 : Int) (A B : Option Addr) (n c m d : Nat) (xss yss : List (List Int)) (w : World) (hx : RowsAt w w.heap.size A n xss) (hy : RowsAt w w.heap.size B m yss) :
    Calls Tryz.prog 10 #[.agg #[.int .i64 m1, .slice A n c], .agg #[.int .i64 m2, .slice B m d]] w (RetVal w (.bool (tabEqB m1 m2 xss yss))) := by
  rcases hm : (m1 == m2) with _ | _
  · have e := hide (show tabEqB m1 m2 xss yss = false by simp [tabEqB, hm])
    go_enter Tryz.func10, Tryz.ntmps10
    go_wp2_with fail
    go_ret
    exact ⟨ret_bool e.out.symm, by go_grown⟩
  · have e := hide (show tabEqB m1 m2 xss yss = (xss == yss) by simp [tabEqB, hm])
    rcases hxy : (xss == yss) with _ | _
    all_goals
      rw [hxy] at e
      replace hxy := hide hxy
      go_enter Tryz.func10, Tryz.ntmps10
      go_wp2_with fail
      refine (eqfunc _ _ _ _ _ _ xss yss _ (hx.later ?_) (hy.later ?_)).mono ?_
      · go_grown
      · go_grown
      rintro e2 w1 ⟨rfl, q, rfl⟩
      rw [hxy.out]
      go_wp2_with fail
      go_ret
      exact ⟨ret_bool e.out.symm, below_drewN (by go_grown) _⟩

set_option maxHeartbeats 1600000 in
set_option maxRecDepth 100000 in
theorem specEqT (m1 m2 : Int) (A B : Option Addr) (n c m d : Nat) (xss yss : List (List Int)) (w : World) (hx : RowsAt w w.heap.size A n xss) (hy : RowsAt w w.heap.size B m yss) :
    Calls Tryz.prog 14 #[.agg #[.int .i64 m1, .slice A n c], .agg #[.int .i64 m2, .slice B m d]] w (RetVal w (.bool (tabEqB m1 m2 xss yss))) := by
  have hn := rows_bound hx
  have hm' := rows_bound hy
  rcases hm : (m1 == m2) with _ | _
  · have e := hide (show tabEqB m1 m2 xss yss = false by simp [tabEqB, hm])
    have hq : (m1 != m2) = true := by rw [bne, hm]; rfl
    go_enter Tryz.func14, Tryz.ntmps14
    go_wp2_with fail
    go_ret
    exact ⟨ret_bool e.out.symm, by go_grown⟩
  · have e0 := hide (show tabEqB m1 m2 xss yss = (xss == yss) by simp [tabEqB, hm])
    have hq : (m1 != m2) = false := by rw [bne, hm]; rfl
    have lx := hx.1
    have ly := hy.1
    by_cases hnm : n = m
    · subst hnm
      replace lx := hide lx
      replace ly := hide ly
      go_enter Tryz.func14, Tryz.ntmps14
      go_wp2_with fail
      obtain ⟨wb, hwb⟩ : ∃ wb, wb = (w.alloc (.cells #[.int .i64 m1, .slice A n c] 26)).alloc (.cells #[.int .i64 m2, .slice B n d] 26) := ⟨_, rfl⟩
      have hbx : Below w.heap.size w wb := by rw [hwb]; go_grown
      have hx' := hx.later hbx
      have hy' := hy.later hbx
      have k1 : wb.cell? ⟨w.heap.size, 1, none⟩ = some (.slice A n c) := by rw [hwb, World.cell?_alloc_past _ _ _ (by simp), World.cell?_alloc_at _ _ _ _ rfl]; rfl
      have j1 : wb.cell? ⟨w.heap.size + 1, 1, none⟩ = some (.slice B n d) := by rw [hwb, World.cell?_alloc_at _ _ _ _ (by simp)]; rfl
      rw [← hwb]
      clear hwb hx hy hm
      go_loopw [5] (fun i wr => ∃ k q : Nat, k ≤ n ∧ i = .int .i64 (k : Int) ∧ xss.take k = yss.take k ∧ wr = wb.drewN q) (fun i _ => n - (intOf i).toNat)
      case atStart => exact ⟨0, 0, Nat.zero_le _, rfl, by simp, rfl⟩
      case round =>
        obtain ⟨k, q, hk, rfl, ht, hwr⟩ := hrel
        have hsz : wr.heap.size = wb.heap.size := by rw [hwr]; rfl
        replace k1 : wr.cell? ⟨w.heap.size, 1, none⟩ = some (.slice A n c) := by rw [hwr]; exact k1
        replace j1 : wr.cell? ⟨w.heap.size + 1, 1, none⟩ = some (.slice B n d) := by rw [hwr]; exact j1
        have hbw : Below w.heap.size w wr := by rw [hwr]; exact below_drewN hbx _
        by_cases hlt : k < n
        · obtain ⟨b, o, xs, A', c', rfl, hbb, hx1, hc1, hr1⟩ := at_row (show RowsAt wr wb.heap.size A n xss by rw [hwr]; exact hx') hlt
          obtain ⟨b', o', ys, B', d', rfl, hbb', hy1, hc2, hr2⟩ := at_row (show RowsAt wr wb.heap.size B n yss by rw [hwr]; exact hy') hlt
          rw [← hsz] at hr1 hr2
          replace hwr := hide hwr
          replace ht := hide ht
          replace hx1 := hide hx1
          replace hy1 := hide hy1
          replace hsz := hide hsz
          have hcall : ∀ z, Calls Tryz.prog 43 #[.slice A' xs.length c', .slice B' ys.length d'] (wr.drewN z) fun e w'' => e = .returned (.bool (xs == ys)) ∧ ∃ m, w'' = wr.drewN m := fun z =>
            Calls.quiet_of (l2ints A' B' xs.length c' ys.length d' xs ys (wr.drewN z) hr1 hr2)
          clear hx' hy'
          rcases hq : (xs == ys) with _ | _
          · rw [hq] at hcall
            have e := hide (rows_ne_of_at hx1.out hy1.out hq)
            replace hcall := hide hcall
            replace hq := hide hq
            clear hr1 hr2
            go_wp2_with fail
            go_quiet ((go_at_call 43; exact hcall.out _))
            go_wp2_with fail
            go_ret
            exact ⟨ret_bool (by rw [e0.out, e.out]), below_drewN hbw _⟩
          · rw [hq] at hcall
            rw [beq_iff_eq] at hq
            subst hq
            have e := hide (take_eq_succ ht.out hx1.out hy1.out)
            replace hcall := hide hcall
            clear hr1 hr2
            go_wp2_with fail
            go_quiet ((go_at_call 43; exact hcall.out _))
            go_wp2_with fail
            go_roundw
            case rel => exact ⟨k + 1, q + nq, by omega, by go_num, e.out, by rw [hwr.out, World.drewN_drewN]⟩
            case measure => simp [intOf]; omega
        · obtain rfl : k = n := by omega
          replace ht := hide ht
          replace hwr := hide hwr
          clear hsz hx' hy'
          go_wp2_with fail
          go_ret
          exact ⟨ret_bool (by
            rw [e0.out, eq_comm, beq_iff_eq]
            have := ht.out
            rwa [List.take_of_length_le (by rw [lx.out]; exact Nat.le_refl _), List.take_of_length_le (by rw [ly.out]; exact Nat.le_refl _)] at this), hbw⟩
    · have hq2 : ((n : Int) != (m : Int)) = true := by rw [bne_iff_ne]; omega
      have e := hide (show (xss == yss) = false by rw [beq_eq_false_iff_ne]; rintro rfl; omega)
      clear hnm lx ly hx hy
      go_enter Tryz.func14, Tryz.ntmps14
      go_wp2_with fail
      go_ret
      exact ⟨ret_bool (by rw [e0.out, e.out]), by go_grown⟩
end Go.Proofs.YtooiobcghobefaaGreatDoor
namespace Go.Proofs.YtooiobcghobefaaGreatDoor
open Go.RowKit
set_option linter.unusedVariables false

set_option maxRecDepth 100000 in
theorem lawBigA (A : Option Addr) (n c : Nat) (b : Bool) (w : World) (hb : decide ((1048576 : Int) < (n : Int)) = b) : Calls Tryz.prog 4 #[.slice A n c] w fun e w' => e = .returned (.bool b) ∧ w = w' := by
  replace hb := hide hb
  go_enter Tryz.func4, Tryz.ntmps4
  go_wp2_with fail
  go_ret
  exact ⟨ret_bool hb.out, rfl⟩
set_option maxHeartbeats 800000 in
set_option maxRecDepth 100000 in
theorem lawSame (A B : Option Addr) (n c m d : Nat) (xs ys : List Int) (w : World) (hx : Reads w w.heap.size A n (xs.map (Value.int .i64))) (hy : Reads w w.heap.size B m (ys.map (Value.int .i64))) :
    Calls Tryz.prog 16 #[.slice A n c, .slice B m d] w (RetQuiet w (.bool (xs == ys))) := by
  have hn := hx.bound
  have hm := hy.bound
  have lx := ints_len hx
  have ly := ints_len hy
  by_cases hnm : n = m
  · subst hnm
    replace lx := hide lx
    replace ly := hide ly
    go_enter Tryz.func16, Tryz.ntmps16
    go_wp2_with fail
    go_loopw [5] (fun i wr => ∃ k q : Nat, k ≤ n ∧ i = .int .i64 (k : Int) ∧ xs.take k = ys.take k ∧ wr = w.drewN q) (fun i _ => n - (intOf i).toNat)
    case atStart => exact ⟨0, 0, Nat.zero_le _, rfl, by simp, rfl⟩
    case round =>
      obtain ⟨k, q, hk, rfl, ht, hwr⟩ := hrel
      by_cases hlt : k < n
      · obtain ⟨b, o, x, rfl, hbb, hx1, hc1⟩ := at_int (show Reads wr w.heap.size A n (xs.map (Value.int .i64)) by rw [hwr]; exact hx) hlt
        obtain ⟨b', o', y, rfl, hbb', hy1, hc2⟩ := at_int (show Reads wr w.heap.size B n (ys.map (Value.int .i64)) by rw [hwr]; exact hy) hlt
        replace hwr := hide hwr
        replace ht := hide ht
        replace hx1 := hide hx1
        replace hy1 := hide hy1
        by_cases hxy : x = y
        · subst hxy
          go_wp2_with fail
          go_quiet (fail)
          go_wp2_with fail
          go_roundw
          case rel => exact ⟨k + 1, q + nq, by omega, by go_num, take_eq_succ ht.out hx1.out hy1.out, by rw [hwr.out, World.drewN_drewN]⟩
          case measure => simp [intOf]; omega
        · have hq : (x != y) = true := by rw [bne_iff_ne]; exact hxy
          replace hxy := hide hxy
          go_wp2_with fail
          go_quiet (fail)
          go_wp2_with fail
          go_ret
          exact ⟨ret_bool (by rw [eq_comm, beq_eq_false_iff_ne]; exact ne_of_at hx1.out hy1.out hxy.out), _, by rw [hwr.out, World.drewN_drewN]⟩
      · obtain rfl : k = n := by omega
        replace ht := hide ht
        replace hwr := hide hwr
        go_wp2_with fail
        go_ret
        exact ⟨ret_bool (by
          rw [eq_comm, beq_iff_eq]
          have := ht.out
          rwa [List.take_of_length_le (by rw [lx.out]; exact Nat.le_refl _), List.take_of_length_le (by rw [ly.out]; exact Nat.le_refl _)] at this), _, hwr.out⟩
  · have hq : ((n : Int) != (m : Int)) = true := by rw [bne_iff_ne]; omega
    have e : (xs == ys) = false := by rw [beq_eq_false_iff_ne]; rintro rfl; omega
    rw [e]
    clear e hnm lx ly
    go_enter Tryz.func16, Tryz.ntmps16
    go_wp2_with fail
    go_ret
    exact ⟨rfl, 0, rfl⟩
/-- Two lists alike. -/
theorem lawSame1 (A B : Option Addr) (n c m d : Nat) (xs : List Int) (w : World) (hx : Reads w w.heap.size A n (xs.map (Value.int .i64))) (hy : Reads w w.heap.size B m (xs.map (Value.int .i64))) :
    Calls Tryz.prog 16 #[.slice A n c, .slice B m d] w (RetVal w (.bool true)) := by
  refine (lawSame A B n c m d xs xs w hx hy).mono ?_
  rintro e w' ⟨rfl, q, rfl⟩
  exact ⟨ret_bool (by simp), below_drewN (Below.refl _ _) _⟩
end Go.Proofs.YtooiobcghobefaaGreatDoor
namespace Go.Proofs.YtooiobcghobefaaGreatDoor
open Go.RowKit
set_option linter.unusedVariables false


/-- A drawn table. -/
def RetDt (w : World) (e : Ending) (w' : World) : Prop :=
  ∃ (A' : Option Addr) (N d : Nat) (col : Int) (zss : List (List Int)), e = .returned (.agg #[.int .i64 col, .slice A' N d]) ∧ N ≤ 13 ∧ RowsU w' w.heap.size w'.heap.size A' N d zss ∧ Below w.heap.size w w'
/-- A drawn table with a number. -/
def RetDti (w : World) (e : Ending) (w' : World) : Prop :=
  ∃ (A' : Option Addr) (N d : Nat) (col x : Int) (zss : List (List Int)), e = .returned (.tuple #[.agg #[.int .i64 col, .slice A' N d], .int .i64 x]) ∧ N ≤ 13 ∧ RowsU w' w.heap.size w'.heap.size A' N d zss ∧ Below w.heap.size w w'
set_option maxHeartbeats 3200000 in
set_option maxRecDepth 100000 in
theorem drawFt (A : Option Addr) (n c : Nat) (zs : List Int) (w : World) (hr : Reads w w.heap.size A n (zs.map (Value.int .u8))) (hz : ∀ z ∈ zs, 0 ≤ z ∧ z ≤ 255) (hnb : n ≤ 1048576) :
    Calls Tryz.prog 5 #[.slice A n c] w (RetDt w) := by
  replace hz := hide hz
  obtain ⟨wa, hwa⟩ : ∃ wa, wa = w.alloc (.cells #[.int .i64 0, .slice none 0 0] 26) := ⟨_, rfl⟩
  have hwz : wa.heap.size = w.heap.size + 1 := by rw [hwa]; simp
  have hba : Below w.heap.size w wa := by rw [hwa]; exact (Below.refl _ _).alloc (Nat.le_refl _) _
  have hres : wa.ownsRow w.heap.size 26 1 (.slice (some ⟨w.heap.size, 0, none⟩) 2 2) 2 [.int .i64 0, .slice none 0 0] := by
    rw [hwa]; exact World.ownsRow_lit (e := 26) (size := 1) w #[.int .i64 0, .slice none 0 0] 2 (Nat.le_refl _) (by unfold maxLen; omega) rfl
  have hra : Reads wa wa.heap.size A n (zs.map (Value.int .u8)) := (hr.below hba).more hba.size
  have hwa' := hide hwa
  clear hwa
  go_enter Tryz.func5, Tryz.ntmps5
  go_wp2_with fail
  rw [← hwa'.out]
  refine (l1new A n c zs _ hra hz.out hnb).mono ?_
  rintro e w1 ⟨g, rfl, hc1, hb1⟩
  have hgw : w.heap.size ≤ g := by obtain ⟨⟨i, H, _, h2⟩, _, _⟩ := hc1; have := (h2.lt g rfl).1; omega
  have hres1 := own_below hres hb1
  have hbw1 : Below w.heap.size w w1 := hba.trans (hb1.mono (by omega))
  have hc1' := hc1.lower hr hbw1 (by omega)
  replace hc1 := hide hc1
  replace hres := hide hres
  replace hr := hide hr
  replace hra := hide hra
  go_wp2_with fail
  refine (l3any g _ A n c zs _ hc1').mono ?_
  rintro e w2 ⟨A1, N1, d1, col, zss, rfl, hN, hR1, hc2, hg2⟩
  have hres2 := hres1.kept hg2 (hc1'.ne hres1 (by decide))
  have hgr2 := (grown_of_below hbw1 (some g)).trans hg2
  have hs1 := hbw1.size
  have hs2 := hgr2.size
  have hbz := below_of_grown hgr2 hgw
  have g1 := grown_setCell w2 w.heap.size 0 (.int .i64 col)
  have g2 := grown_setCell (w2.setCell ⟨w.heap.size, 0, none⟩ (.int .i64 col)) w.heap.size 1 (.slice A1 N1 d1)
  have p1 := (hres2.stored 0 (.int .i64 col)).1
  have p2 := (p1.stored 1 (.slice A1 N1 d1)).1
  have hRz := hide ((((hR1.more hs1).other hres2 (by decide) (.inl (by decide)) g1).bound.other p1 (by decide) (.inl (by decide)) g2).bound)
  have bb1 := hbz.grown g1 hbz.size (fun k hk => by cases hk; exact Nat.le_refl _)
  have bb2 := hide (bb1.grown g2 bb1.size (fun k hk => by cases hk; exact Nat.le_refl _))
  have z0 : ((w2.setCell ⟨w.heap.size, 0, none⟩ (.int .i64 col)).setCell ⟨w.heap.size, 1, none⟩ (.slice A1 N1 d1)).cell? ⟨w.heap.size, 0, none⟩ = some (.int .i64 col) := p2.cellAt 0 (by omega)
  have z1 : ((w2.setCell ⟨w.heap.size, 0, none⟩ (.int .i64 col)).setCell ⟨w.heap.size, 1, none⟩ (.slice A1 N1 d1)).cell? ⟨w.heap.size, 1, none⟩ = some (.slice A1 N1 d1) := p2.cellAt 1 (by omega)
  have cr0 : w2.cell? ⟨w.heap.size, 0, none⟩ = some (.int .i64 0) := hres2.cellAt 0 (by omega)
  have cr1 : w2.cell? ⟨w.heap.size, 1, none⟩ = some (.slice none 0 0) := hres2.cellAt 1 (by omega)
  have fr0 := hres2.frozenAt 0
  have fr1 := hres2.frozenAt 1
  replace z0 := hide z0
  replace z1 := hide z1
  clear g1 g2 p1 p2 bb1 hbz hres2 hR1 hgr2 hres1 hg2 hc2 hc1' hbw1 hba hb1
  go_wp2_with fail
  replace z0 := z0.out
  replace z1 := z1.out
  refine bodyPost_ret (v := .agg #[.int .i64 col, .slice A1 N1 d1]) (by simp [results, Tryz.results5, go_sem, z0, z1]) rfl ?_
  exact ⟨A1, N1, d1, col, zss, rfl, hN, hRz.out, bb2.out⟩
set_option maxHeartbeats 3200000 in
set_option maxRecDepth 100000 in
theorem drawCol (A : Option Addr) (n c : Nat) (zs : List Int) (w : World) (hr : Reads w w.heap.size A n (zs.map (Value.int .u8))) (hz : ∀ z ∈ zs, 0 ≤ z ∧ z ≤ 255) (hnb : n ≤ 1048576) :
    Calls Tryz.prog 17 #[.slice A n c] w (RetDti w) := by
  replace hz := hide hz
  obtain ⟨wa, hwa⟩ : ∃ wa, wa = w.alloc (.cells #[.int .i64 0, .slice none 0 0] 26) := ⟨_, rfl⟩
  have hwz : wa.heap.size = w.heap.size + 1 := by rw [hwa]; simp
  have hba : Below w.heap.size w wa := by rw [hwa]; exact (Below.refl _ _).alloc (Nat.le_refl _) _
  have hres : wa.ownsRow w.heap.size 26 1 (.slice (some ⟨w.heap.size, 0, none⟩) 2 2) 2 [.int .i64 0, .slice none 0 0] := by
    rw [hwa]; exact World.ownsRow_lit (e := 26) (size := 1) w #[.int .i64 0, .slice none 0 0] 2 (Nat.le_refl _) (by unfold maxLen; omega) rfl
  have hra : Reads wa wa.heap.size A n (zs.map (Value.int .u8)) := (hr.below hba).more hba.size
  have hwa' := hide hwa
  clear hwa
  go_enter Tryz.func17, Tryz.ntmps17
  go_wp2_with fail
  rw [← hwa'.out]
  refine (l1new A n c zs _ hra hz.out hnb).mono ?_
  rintro e w1 ⟨g, rfl, hc1, hb1⟩
  have hgw : w.heap.size ≤ g := by obtain ⟨⟨i, H, _, h2⟩, _, _⟩ := hc1; have := (h2.lt g rfl).1; omega
  have hres1 := own_below hres hb1
  have hbw1 : Below w.heap.size w w1 := hba.trans (hb1.mono (by omega))
  have hc1' := hc1.lower hr hbw1 (by omega)
  replace hc1 := hide hc1
  replace hres := hide hres
  replace hr := hide hr
  replace hra := hide hra
  go_wp2_with fail
  refine (l3any g _ A n c zs _ hc1').mono ?_
  rintro e w2 ⟨A1, N1, d1, col, zss, rfl, hN, hR1, hc2, hg2⟩
  have hres2 := hres1.kept hg2 (hc1'.ne hres1 (by decide))
  have hgr2 := (grown_of_below hbw1 (some g)).trans hg2
  have hs1 := hbw1.size
  have hs2 := hgr2.size
  obtain ⟨tb, htb⟩ : ∃ tb, tb = w2.heap.size := ⟨_, rfl⟩
  have hrt : w.heap.size < tb := by rw [htb]; have := hg2.size; have := hb1.size; omega
  have htab : (w2.alloc (.cells #[.int .i64 col, .slice A1 N1 d1] 26)).ownsRow w.heap.size 26 1 (.slice (some ⟨tb, 0, none⟩) 2 2) 2 [.int .i64 col, .slice A1 N1 d1] := by
    rw [htb]; exact World.ownsRow_lit (e := 26) (size := 1) w2 #[.int .i64 col, .slice A1 N1 d1] 2 hs2 (by unfold maxLen; omega) rfl
  have hbA : Below w2.heap.size w2 (w2.alloc (.cells #[.int .i64 col, .slice A1 N1 d1] 26)) := (Below.refl _ _).alloc (Nat.le_refl _) _
  have T0 : TabI w (w2.alloc (.cells #[.int .i64 col, .slice A1 N1 d1] 26)) g w.heap.size A n c zs w.heap.size tb col A1 N1 d1 zss :=
    ⟨htab, ((hR1.more hs1).below hbA).bound, own_below hres2 hbA, hc2.below hbA, grown_below hgr2 hbA⟩
  obtain ⟨w3, hw3⟩ : ∃ w3, w3 = (w2.alloc (.cells #[.int .i64 col, .slice A1 N1 d1] 26)) := ⟨_, rfl⟩
  rw [← hw3] at T0
  clear htab hbA hR1 hgr2 hres2 hres1 hg2 hc2 hc1' hbw1 hba hb1
  have T0' := hide T0
  have ct0 : w3.cell? ⟨tb, 0, none⟩ = some (.int .i64 col) := T0.tab.cellAt 0 (by omega)
  have ct1 : w3.cell? ⟨tb, 1, none⟩ = some (.slice A1 N1 d1) := T0.tab.cellAt 1 (by omega)
  have cr0 : w3.cell? ⟨w.heap.size, 0, none⟩ = some (.int .i64 0) := T0.res.cellAt 0 (by omega)
  have cr1 : w3.cell? ⟨w.heap.size, 1, none⟩ = some (.slice none 0 0) := T0.res.cellAt 1 (by omega)
  have fr0 := T0.res.frozenAt 0
  have fr1 := T0.res.frozenAt 1
  clear T0
  replace hw3 := hide hw3
  replace htb := hide htb
  go_wp2_with fail
  rw [← hw3.out, ← htb.out]
  have TD : TabI w w3.drew g w.heap.size A n c zs w.heap.size tb col A1 N1 d1 zss := by
    obtain ⟨a1, a2, a3, a4, a5⟩ := T0'.out
    exact ⟨a1, a2, a3, a4, ⟨a5.os, a5.tape, a5.output, a5.size, a5.block⟩⟩
  replace TD := hide TD
  go_region_law (first
    | (go_simp; go_at_call 37; refine (l1below g _ A n c zs 7 _ TD.out.cur).mono ?_; rintro e w5 ⟨v, rfl, ⟨y, rfl, hy⟩, hc5, hg5⟩; have T5 := TD.out.grow hc5 hg5; have qt0 : w5.cell? ⟨tb, 0, none⟩ = some (.int .i64 col) := T5.tab.cellAt 0 (by omega); have qt1 : w5.cell? ⟨tb, 1, none⟩ = some (.slice A1 N1 d1) := T5.tab.cellAt 1 (by omega); have qr0 : w5.cell? ⟨w.heap.size, 0, none⟩ = some (.int .i64 0) := T5.res.cellAt 0 (by omega); have qr1 : w5.cell? ⟨w.heap.size, 1, none⟩ = some (.slice none 0 0) := T5.res.cellAt 1 (by omega); have gr0 := T5.res.frozenAt 0; have gr1 := T5.res.frozenAt 1; have hy6 : (y : Int) < 7 := hy (by omega); replace hy := hide hy; have hfin := hide (T5.fin (Nat.le_refl _) (Nat.le_refl _)); replace hc5 := hide hc5; replace T5 := hide T5))
  all_goals
    go_wp2_with fail
    obtain ⟨z0, z1, hRz, hcz, hgz⟩ := hfin.out
    have hwp : IntKind.i64.wrap ((y : Int) - 1) = (y : Int) - 1 := IntWalk.i64_in _ (by omega)
    refine bodyPost_ret (v := .tuple #[.agg #[.int .i64 col, .slice A1 N1 d1], .int .i64 ((y : Int) - 1)]) (by simp [results, Tryz.results17, go_sem, z0, z1, hwp]) rfl ?_
    exact ⟨A1, N1, d1, col, _, zss, rfl, hN, hRz, below_of_grown hgz hgw⟩
set_option maxHeartbeats 3200000 in
set_option maxRecDepth 100000 in
theorem drawPrj (A : Option Addr) (n c : Nat) (zs : List Int) (w : World) (hr : Reads w w.heap.size A n (zs.map (Value.int .u8))) (hz : ∀ z ∈ zs, 0 ≤ z ∧ z ≤ 255) (hnb : n ≤ 1048576) :
    Calls Tryz.prog 12 #[.slice A n c] w (RetDti w) := by
  replace hz := hide hz
  obtain ⟨wa, hwa⟩ : ∃ wa, wa = w.alloc (.cells #[.int .i64 0, .slice none 0 0] 26) := ⟨_, rfl⟩
  have hwz : wa.heap.size = w.heap.size + 1 := by rw [hwa]; simp
  have hba : Below w.heap.size w wa := by rw [hwa]; exact (Below.refl _ _).alloc (Nat.le_refl _) _
  have hres : wa.ownsRow w.heap.size 26 1 (.slice (some ⟨w.heap.size, 0, none⟩) 2 2) 2 [.int .i64 0, .slice none 0 0] := by
    rw [hwa]; exact World.ownsRow_lit (e := 26) (size := 1) w #[.int .i64 0, .slice none 0 0] 2 (Nat.le_refl _) (by unfold maxLen; omega) rfl
  have hra : Reads wa wa.heap.size A n (zs.map (Value.int .u8)) := (hr.below hba).more hba.size
  have hwa' := hide hwa
  clear hwa
  go_enter Tryz.func12, Tryz.ntmps12
  go_wp2_with fail
  rw [← hwa'.out]
  refine (l1new A n c zs _ hra hz.out hnb).mono ?_
  rintro e w1 ⟨g, rfl, hc1, hb1⟩
  have hgw : w.heap.size ≤ g := by obtain ⟨⟨i, H, _, h2⟩, _, _⟩ := hc1; have := (h2.lt g rfl).1; omega
  have hres1 := own_below hres hb1
  have hbw1 : Below w.heap.size w w1 := hba.trans (hb1.mono (by omega))
  have hc1' := hc1.lower hr hbw1 (by omega)
  replace hc1 := hide hc1
  replace hres := hide hres
  replace hr := hide hr
  replace hra := hide hra
  go_wp2_with fail
  refine (l3any g _ A n c zs _ hc1').mono ?_
  rintro e w2 ⟨A1, N1, d1, col, zss, rfl, hN, hR1, hc2, hg2⟩
  have hres2 := hres1.kept hg2 (hc1'.ne hres1 (by decide))
  have hgr2 := (grown_of_below hbw1 (some g)).trans hg2
  have hs1 := hbw1.size
  have hs2 := hgr2.size
  obtain ⟨tb, htb⟩ : ∃ tb, tb = w2.heap.size := ⟨_, rfl⟩
  have hrt : w.heap.size < tb := by rw [htb]; have := hg2.size; have := hb1.size; omega
  have htab : (w2.alloc (.cells #[.int .i64 col, .slice A1 N1 d1] 26)).ownsRow w.heap.size 26 1 (.slice (some ⟨tb, 0, none⟩) 2 2) 2 [.int .i64 col, .slice A1 N1 d1] := by
    rw [htb]; exact World.ownsRow_lit (e := 26) (size := 1) w2 #[.int .i64 col, .slice A1 N1 d1] 2 hs2 (by unfold maxLen; omega) rfl
  have hbA : Below w2.heap.size w2 (w2.alloc (.cells #[.int .i64 col, .slice A1 N1 d1] 26)) := (Below.refl _ _).alloc (Nat.le_refl _) _
  have T0 : TabI w (w2.alloc (.cells #[.int .i64 col, .slice A1 N1 d1] 26)) g w.heap.size A n c zs w.heap.size tb col A1 N1 d1 zss :=
    ⟨htab, ((hR1.more hs1).below hbA).bound, own_below hres2 hbA, hc2.below hbA, grown_below hgr2 hbA⟩
  obtain ⟨w3, hw3⟩ : ∃ w3, w3 = (w2.alloc (.cells #[.int .i64 col, .slice A1 N1 d1] 26)) := ⟨_, rfl⟩
  rw [← hw3] at T0
  clear htab hbA hR1 hgr2 hres2 hres1 hg2 hc2 hc1' hbw1 hba hb1
  replace hw3 := hide hw3
  replace htb := hide htb
  go_wp2_with fail
  rw [← hw3.out, ← htb.out]
  refine (l1once g _ A n c zs 4 _ T0.cur).mono ?_
  rintro e w4 ⟨v, rfl, ⟨b, rfl⟩, hc4, hg4⟩
  have T4 := T0.grow hc4 hg4
  clear T0
  have T0' := hide T4
  have ct0 : w4.cell? ⟨tb, 0, none⟩ = some (.int .i64 col) := T4.tab.cellAt 0 (by omega)
  have ct1 : w4.cell? ⟨tb, 1, none⟩ = some (.slice A1 N1 d1) := T4.tab.cellAt 1 (by omega)
  have cr0 : w4.cell? ⟨w.heap.size, 0, none⟩ = some (.int .i64 0) := T4.res.cellAt 0 (by omega)
  have cr1 : w4.cell? ⟨w.heap.size, 1, none⟩ = some (.slice none 0 0) := T4.res.cellAt 1 (by omega)
  have fr0 := T4.res.frozenAt 0
  have fr1 := T4.res.frozenAt 1
  clear T4 hc4 hg4
  have TD : TabI w w4.drew g w.heap.size A n c zs w.heap.size tb col A1 N1 d1 zss := by
    obtain ⟨a1, a2, a3, a4, a5⟩ := T0'.out
    exact ⟨a1, a2, a3, a4, ⟨a5.os, a5.tape, a5.output, a5.size, a5.block⟩⟩
  replace TD := hide TD
  rcases b with _ | _
  · go_wp2_with fail
    go_region_law (first
      | (go_simp; go_at_call 37; refine (l1below g _ A n c zs 8 _ TD.out.cur).mono ?_; rintro e w5 ⟨v, rfl, ⟨y, rfl, hy⟩, hc5, hg5⟩; have T5 := TD.out.grow hc5 hg5; have qt0 : w5.cell? ⟨tb, 0, none⟩ = some (.int .i64 col) := T5.tab.cellAt 0 (by omega); have qt1 : w5.cell? ⟨tb, 1, none⟩ = some (.slice A1 N1 d1) := T5.tab.cellAt 1 (by omega); have qr0 : w5.cell? ⟨w.heap.size, 0, none⟩ = some (.int .i64 0) := T5.res.cellAt 0 (by omega); have qr1 : w5.cell? ⟨w.heap.size, 1, none⟩ = some (.slice none 0 0) := T5.res.cellAt 1 (by omega); have gr0 := T5.res.frozenAt 0; have gr1 := T5.res.frozenAt 1; have hy6 : (y : Int) < 8 := hy (by omega); replace hy := hide hy; have hfin := hide (T5.fin (Nat.le_refl _) (Nat.le_refl _)); replace hc5 := hide hc5; replace T5 := hide T5))
    all_goals
      go_wp2_with fail
      obtain ⟨z0, z1, hRz, hcz, hgz⟩ := hfin.out
      refine bodyPost_ret (v := .tuple #[.agg #[.int .i64 col, .slice A1 N1 d1], .int .i64 (y)]) (by simp [results, Tryz.results12, go_sem, z0, z1]) rfl ?_
      exact ⟨A1, N1, d1, col, _, zss, rfl, hN, hRz, below_of_grown hgz hgw⟩
  · go_wp2_with fail
    go_region_law (first
      | (go_simp; go_at_call 36; refine (l2any g _ A n c zs _ TD.out.cur).mono ?_; rintro e w5 ⟨v, rfl, ⟨y, rfl⟩, hc5, hg5⟩; have T5 := TD.out.grow hc5 hg5; have qt0 : w5.cell? ⟨tb, 0, none⟩ = some (.int .i64 col) := T5.tab.cellAt 0 (by omega); have qt1 : w5.cell? ⟨tb, 1, none⟩ = some (.slice A1 N1 d1) := T5.tab.cellAt 1 (by omega); have qr0 : w5.cell? ⟨w.heap.size, 0, none⟩ = some (.int .i64 0) := T5.res.cellAt 0 (by omega); have qr1 : w5.cell? ⟨w.heap.size, 1, none⟩ = some (.slice none 0 0) := T5.res.cellAt 1 (by omega); have gr0 := T5.res.frozenAt 0; have gr1 := T5.res.frozenAt 1; have hfin := hide (T5.fin (Nat.le_refl _) (Nat.le_refl _)); replace hc5 := hide hc5; replace T5 := hide T5))
    all_goals
      go_wp2_with fail
      obtain ⟨z0, z1, hRz, hcz, hgz⟩ := hfin.out
      refine bodyPost_ret (v := .tuple #[.agg #[.int .i64 col, .slice A1 N1 d1], .int .i64 (y)]) (by simp [results, Tryz.results12, go_sem, z0, z1]) rfl ?_
      exact ⟨A1, N1, d1, col, _, zss, rfl, hN, hRz, below_of_grown hgz hgw⟩
end Go.Proofs.YtooiobcghobefaaGreatDoor
namespace Go.Proofs.YtooiobcghobefaaGreatDoor
open Go.RowKit Go.Lib
set_option linter.unusedVariables false

theorem partsR_one {c : UInt8} : ∀ {p : List UInt8}, c ∉ p → partsR c p = [p]
  | [], _ => rfl
  | b :: p, h => by
    have hb : b ≠ c := fun e => h (by rw [e]; simp)
    rw [partsR_no hb (partsR_one (p := p) fun q => h (List.mem_cons_of_mem _ q))]
theorem partsR_app {c : UInt8} {l : List UInt8} : ∀ {p : List UInt8}, c ∉ p → partsR c (p ++ c :: l) = p :: partsR c l
  | [], _ => by rw [List.nil_append, partsR_yes]
  | b :: p, h => by
    have hb : b ≠ c := fun e => h (by rw [e]; simp)
    rw [List.cons_append, partsR_no hb (partsR_app (p := p) fun q => h (List.mem_cons_of_mem _ q))]
theorem join_two (a b : List UInt8) (r : List (List UInt8)) (sep : List UInt8) : Lib.join (a :: b :: r) sep = a ++ (sep ++ Lib.join (b :: r) sep) := by
  simp [Lib.join]
theorem partsR_join {c : UInt8} : ∀ {ws : List (List UInt8)}, ws ≠ [] → (∀ x ∈ ws, c ∉ x) → partsR c (Lib.join ws [c]) = ws
  | [], h, _ => absurd rfl h
  | [a], _, hc => by
    rw [show Lib.join [a] [c] = a by simp [Lib.join]]
    exact partsR_one (hc a (by simp))
  | a :: b :: r, _, hc => by
    rw [join_two, List.singleton_append, partsR_app (hc a (by simp)), partsR_join (by simp) fun x hx => hc x (List.mem_cons_of_mem _ hx)]
theorem dec_byte (u : Nat) : ∀ b ∈ decDigits u, 48 ≤ b.toNat ∧ b.toNat ≤ 57 := by
  induction u using Nat.strongRecOn with
  | ind u ih =>
    intro b hb
    rw [decDigits] at hb
    split at hb
    · rw [List.mem_singleton] at hb
      rw [hb, u8_dig (by omega)]; omega
    · rw [List.mem_append, List.mem_singleton] at hb
      rcases hb with hb | hb
      · exact ih _ (by omega) b hb
      · rw [hb, u8_dig (by omega)]; omega
theorem cellW_byte {v : Int} (h : -1 ≤ v ∧ v ≤ 40) : (10 : UInt8) ∉ cellW v ∧ (32 : UInt8) ∉ cellW v := by
  unfold cellW
  split
  · decide
  · obtain ⟨u, rfl⟩ : ∃ u : Nat, v = u := ⟨v.toNat, by omega⟩
    rw [ita_nonneg]
    constructor <;> intro hb <;> have := dec_byte u _ hb <;> revert this <;> decide
theorem ptVal_cell {v : Int} (h : -1 ≤ v ∧ v ≤ 40) : ptVal (cellW v) = v := by
  by_cases hv : v = -1
  · rw [hv, cellW_null]; exact ptVal_null (by simp)
  · rw [cellW_num hv]
    have hin : inP v = true := by unfold inP; simp; omega
    have hno := numOf_itoa hin
    have hg : parG (itoa v) = true := by unfold parG; rw [hno, hin]; simp
    have hn : parN (itoa v) = v := by unfold parN; rw [if_pos hg, hno]
    have hne : (itoa v == nullL) = false := by
      rw [beq_eq_false_iff_ne]
      obtain ⟨u, rfl⟩ : ∃ u : Nat, v = u := ⟨v.toNat, by omega⟩
      rw [ita_nonneg]
      obtain ⟨b, r, e, h1, h2⟩ := dec_head u
      rw [e]
      intro q
      injection q with q1
      rw [q1] at h2
      revert h2
      decide
    rw [ptVal_num hne hg (by omega), hn]
theorem rowP_row {zs : List Int} (h0 : zs ≠ []) (h : ∀ z ∈ zs, -1 ≤ z ∧ z ≤ 40) : rowP (rowW zs) = zs := by
  unfold rowP rowW
  rw [partsV_eq, partsR_join (by simpa using h0) (fun x hx => by obtain ⟨z, hz, rfl⟩ := List.mem_map.1 hx; exact (cellW_byte (h z hz)).2), List.map_map]
  refine (List.map_congr_left fun z hz => ?_).trans (List.map_id zs)
  exact ptVal_cell (h z hz)
theorem join_mem {c : UInt8} {sep : List UInt8} (hs : c ∉ sep) : ∀ {ws : List (List UInt8)}, (∀ x ∈ ws, c ∉ x) → c ∉ Lib.join ws sep
  | [], _ => by simp [Lib.join]
  | [a], h => by rw [show Lib.join [a] sep = a by simp [Lib.join]]; exact h a (by simp)
  | a :: b :: r, h => by
    rw [join_two, List.mem_append, List.mem_append]
    rintro (q | q | q)
    · exact h a (by simp) q
    · exact hs q
    · exact join_mem hs (fun x hx => h x (List.mem_cons_of_mem _ hx)) q
theorem row_line {zs : List Int} (h : ∀ z ∈ zs, -1 ≤ z ∧ z ≤ 40) : (10 : UInt8) ∉ rowW zs :=
  join_mem (by decide) fun x hx => by obtain ⟨z, hz, rfl⟩ := List.mem_map.1 hx; exact (cellW_byte (h z hz)).1
theorem parts_tab : ∀ {zss : List (List Int)}, (∀ zs ∈ zss, ∀ z ∈ zs, -1 ≤ z ∧ z ≤ 40) → partsR 10 (tabL zss) = zss.map rowW ++ [[]]
  | [], _ => rfl
  | zs :: r, h => by
    have e : tabL (zs :: r) = rowW zs ++ 10 :: tabL r := by simp [tabL]
    rw [e, partsR_app (row_line (h zs (by simp))), parts_tab fun y hy => h y (List.mem_cons_of_mem _ hy)]
    rfl
def headB : Bool := (List.range 6).all fun m => (m == 0) || ((!(fmtA (((2 ^ m : Nat) : Int) - 1)).contains 10) && ((fmtA (((2 ^ m : Nat) : Int) - 1)).length == m))
theorem headB_true : headB = true := by decide +kernel
theorem head_of {M : Nat} (h1 : 1 ≤ M) (h5 : M ≤ 5) : (10 : UInt8) ∉ fmtA (((2 ^ M : Nat) : Int) - 1) ∧ (fmtA (((2 ^ M : Nat) : Int) - 1)).length = M := by
  have := List.all_eq_true.1 headB_true M (List.mem_range.2 (by omega))
  simp only [Bool.or_eq_true, beq_iff_eq, Bool.and_eq_true, Bool.not_eq_true'] at this
  rcases this with q | ⟨q1, q2⟩
  · omega
  · exact ⟨fun hc => (by rw [List.contains_iff_mem.2 hc] at q1; cases q1), q2⟩
theorem tab_again {m : Int} {zss : List (List Int)} (h : isTabB m zss = true) : ptC (ftV m zss) = m ∧ ptZ (ftV m zss) = zss := by
  obtain ⟨M, rfl, h1, h5, _, hz⟩ := tab_parts h
  obtain ⟨p1, p2⟩ := head_of h1 h5
  have hp : partsV 10 (ftV (M : Int) zss) = fmtA (((2 ^ M : Nat) : Int) - 1) :: (zss.map rowW ++ [[]]) := by
    rw [ftV_yes h, partsV_eq]
    unfold headL
    rw [Int.toNat_natCast, List.append_assoc, List.singleton_append, partsR_app p1, parts_tab fun zs hq => (hz zs hq).2]
  constructor
  · unfold ptC; rw [hp]; show ((fmtA _).length : Int) = _; rw [p2]
  · unfold ptZ ptRows
    rw [hp, List.drop_succ_cons, List.drop_zero, List.length_cons, List.length_append, List.length_map, List.length_cons, List.length_nil, show zss.length + (0 + 1) + 1 - 2 = zss.length by omega,
      List.take_append_of_le_length (by rw [List.length_map]; exact Nat.le_refl _), List.take_of_length_le (by rw [List.length_map]; exact Nat.le_refl _), List.map_map]
    refine (List.map_congr_left fun zs hq => ?_).trans (List.map_id zss)
    exact rowP_row (fun e => by have := (hz zs hq).1; rw [e] at this; simp at this; omega) (hz zs hq).2
theorem ptG_ft (m : Int) (zss : List (List Int)) : ptG (ftV m zss) = isTabB m zss := by
  cases h : isTabB m zss
  · rw [ftV_no h]; rfl
  · obtain ⟨h1, h2⟩ := tab_again h
    have hne : ftV m zss ≠ [] := by rw [ftV_yes h]; unfold headL; simp
    rw [ptG_eq hne, h1, h2]; simp
theorem pt_eq {m : Int} {zss : List (List Int)} (h : isTabB m zss = true) : tabEqB (ptM (ftV m zss)) m (ptR (ftV m zss)) zss = true := by
  obtain ⟨h1, h2⟩ := tab_again h
  have hg : ptG (ftV m zss) = true := by rw [ptG_ft, h]
  rw [ptM_yes hg, ptR_yes hg, h1, h2]; exact tabEqB_same _ _
end Go.Proofs.YtooiobcghobefaaGreatDoor
namespace Go.Proofs.YtooiobcghobefaaGreatDoor.lFnTables
open Go.RowKit
set_option linter.unusedVariables false

open Go.Lib
theorem keep2 {w0 wc wn : World} {b o1 o2 b' o3 o4 : Nat} {x y x' y' : Value} (h1 : Below w0.heap.size w0 wc) (h2 : wc.cell? ⟨b, o1, none⟩ = some x) (h3 : wc.cell? ⟨b, o2, none⟩ = some y) (h4 : wc.cell? ⟨b', o3, none⟩ = some x') (h5 : wc.cell? ⟨b', o4, none⟩ = some y') (hb : b < w0.heap.size) (hb' : b' < w0.heap.size) (hn : Below wc.heap.size wc wn) :
    Below w0.heap.size w0 wn ∧ wn.cell? ⟨b, o1, none⟩ = some x ∧ wn.cell? ⟨b, o2, none⟩ = some y ∧ wn.cell? ⟨b', o3, none⟩ = some x' ∧ wn.cell? ⟨b', o4, none⟩ = some y' :=
  ⟨below_call h1 hn, cell_below hn h2 (Nat.lt_of_lt_of_le hb h1.size), cell_below hn h3 (Nat.lt_of_lt_of_le hb h1.size), cell_below hn h4 (Nat.lt_of_lt_of_le hb' h1.size), cell_below hn h5 (Nat.lt_of_lt_of_le hb' h1.size)⟩
theorem ft_len (m : Int) (zss : List (List Int)) : (ftV m zss).length ≤ 1048576 := by
  cases h : isTabB m zss
  · rw [ftV_no h]; simp
  · obtain ⟨M, _, _, h5, h40, hz⟩ := tab_parts h
    rw [ftV_yes h, List.length_append]
    have h1 := headL_len m
    have h2 := tabL_len hz h5
    omega
theorem prj_len (m : Int) (zss : List (List Int)) (s : Int) : (prjR m zss s).length ≤ zss.length := by
  rcases hG : prjG m zss s with _ | _
  · rw [prjR_no hG]; simp
  · rw [prjR_yes hG]
    have := onceL_len (zss.map (prjRow (memL s)))
    rwa [List.length_map] at this
theorem prj_next (m : Int) (zss : List (List Int)) (s : Int) {j : Nat} {x y : List Int} (hy : (prjR m zss s)[j]? = some y) (hx : (prjR m zss s)[j + 1]? = some x) : (x == y) = false := by
  have hs : SSL (prjR m zss s) := by
    rcases hG : prjG m zss s with _ | _
    · rw [prjR_no hG]; exact List.Pairwise.nil
    · rw [prjR_yes hG]; exact onceL_ss _
  obtain ⟨h1, rfl⟩ := List.getElem?_eq_some_iff.1 hx
  obtain ⟨h2, rfl⟩ := List.getElem?_eq_some_iff.1 hy
  have := List.pairwise_iff_getElem.1 hs j (j + 1) h2 h1 (by omega)
  rw [beq_eq_false_iff_ne]
  intro e
  rw [e, lexL_irrefl] at this
  cases this
set_option maxHeartbeats 16000000 in
set_option maxRecDepth 100000 in
theorem walk (w : World) (A : Option Addr) (n c : Nat) (zs : List Int) (h : Reads w w.heap.size A n (zs.map (Value.int .u8)) ∧ ∀ z ∈ zs, 0 ≤ z ∧ z ≤ 255) (M : Int) (hM : w.cell? ⟨0, 0, none⟩ = some (.int .i64 M)) (hm : Tabs w ∧ Errs w) :
    Calls Tryz.prog 3 #[.slice A n c] w (RetVal w (.bool true)) := by
  obtain ⟨ht, he⟩ := hm
  obtain ⟨hr, hz⟩ := h
  have hn := hr.bound
  have h0 := World.block_lt_of_cell? w _ hM
  have hMl := hide (fun (W : World) (hW : Below w.heap.size w W) => (hW.cell (p := ⟨0, 0, none⟩) h0).trans hM)
  have hTl := hide (fun (W : World) (hW : Below w.heap.size w W) => ht.below hW)
  have hEl := hide (fun (W : World) (hW : Below w.heap.size w W) => he.below hW)
  have hRl := hide (fun (W : World) (hW : Below w.heap.size w W) => (hr.below hW).more hW.size)
  clear hM h0 ht he
  replace hz := hide hz
  by_cases hbig : 1048576 < n
  · have d0 := hide (show decide ((1048576 : Int) < (n : Int)) = true by simp; omega)
    go_enter Tryz.func3, Tryz.ntmps3
    go_wp2_with (go_at_call 4; refine (lawBigA _ _ _ _ _ d0.out).mono ?_; rintro e w1 ⟨rfl, rfl⟩)
    go_ret
    exact ⟨rfl, Below.refl _ _⟩
  have hnb : n ≤ 1048576 := by omega
  have d0 := hide (show decide ((1048576 : Int) < (n : Int)) = false by simp; omega)
  clear hbig
  go_enter Tryz.func3, Tryz.ntmps3
  go_wp2_with (go_at_call 4; refine (lawBigA _ _ _ _ _ d0.out).mono ?_; rintro e w1 ⟨rfl, rfl⟩)
  refine (drawFt A n c zs _ hr hz.out hnb).mono ?_
  rintro e w1 ⟨A1, N1, d1, col, zss, rfl, hN1, hR1, hb⟩
  have ho1 := hR1.own
  obtain ⟨tb, htb⟩ : ∃ tb, tb = w1.heap.size := ⟨_, rfl⟩
  obtain ⟨wa, hwa⟩ : ∃ wa, wa = w1.alloc (.cells #[.int .i64 col, .slice A1 N1 d1] 26) := ⟨_, rfl⟩
  have hba : Below w1.heap.size w1 wa := by rw [hwa]; exact (Below.refl _ _).alloc (Nat.le_refl _) _
  have hoT := ho1.below hba
  have k0 : wa.cell? ⟨tb, 0, none⟩ = some (.int .i64 col) := by rw [hwa, htb, World.cell?_alloc_at _ _ _ _ rfl]; rfl
  have k1 : wa.cell? ⟨tb, 1, none⟩ = some (.slice A1 N1 d1) := by rw [hwa, htb, World.cell?_alloc_at _ _ _ _ rfl]; rfl
  have hk : tb < wa.heap.size := by rw [hwa, htb]; simp
  replace hb := below_call hb hba
  replace hwa := hide hwa
  replace htb := hide htb
  clear hR1 ho1 hba
  have hFi := fun X (hX : RowsAt X X.heap.size A1 N1 zss) (hT : Tabs X) => implFt col A1 N1 d1 zss X hX hT
  have hFs := fun X (hX : RowsAt X X.heap.size A1 N1 zss) => specFt col A1 N1 d1 zss X hX
  have hll := ft_len col zss
  have hpg := ptG_ft col zss
  have hpe := fun h => pt_eq (m := col) (zss := zss) h
  generalize ftV col zss = l at hFi hFs hll hpg hpe
  have hPt := fun X (hX : Below w.heap.size w X) => implPt l M X hll (hTl.out X hX) (hEl.out X hX) (hMl.out X hX)
  unfold RetPt at hPt
  generalize ptM l = mU at hPt hpe
  generalize ptG l = gU at hPt hpg
  generalize ptR l = rU at hPt hpe
  replace hPt := hide hPt
  replace hFi := hide hFi
  replace hFs := hide hFs
  replace hpg := hide hpg
  replace hpe := hide hpe
  go_upto_region 4 with fail
  rw [← hwa.out, ← htb.out]
  go_wp2_with fail
  refine (hFi.out _ hoT.rows (hTl.out _ hb)).mono ?_
  rintro e w2 ⟨rfl, hb1⟩
  replace hoT := hoT.below hb1
  replace k0 := cell_below hb1 k0 hk
  replace k1 := cell_below hb1 k1 hk
  replace hk := Nat.lt_of_lt_of_le hk hb1.size
  replace hb := below_call hb hb1
  clear hb1
  go_wp2_with fail
  refine (hPt.out _ hb).mono ?_
  rintro e w3 ⟨AU, NU, dU, rfl, hoU, hb1⟩
  replace hoT := hoT.below hb1
  replace k0 := cell_below hb1 k0 hk
  replace k1 := cell_below hb1 k1 hk
  replace hk := Nat.lt_of_lt_of_le hk hb1.size
  replace hb := below_call hb hb1
  clear hb1
  obtain ⟨tu, htu⟩ : ∃ tu, tu = w3.heap.size := ⟨_, rfl⟩
  obtain ⟨wu, hwu⟩ : ∃ wu, wu = w3.alloc (.cells #[.int .i64 mU, .slice AU NU dU] 26) := ⟨_, rfl⟩
  have hbx : Below w3.heap.size w3 wu := by rw [hwu]; exact (Below.refl _ _).alloc (Nat.le_refl _) _
  have u0 : wu.cell? ⟨tu, 0, none⟩ = some (.int .i64 mU) := by rw [hwu, htu, World.cell?_alloc_at _ _ _ _ rfl]; rfl
  have u1 : wu.cell? ⟨tu, 1, none⟩ = some (.slice AU NU dU) := by rw [hwu, htu, World.cell?_alloc_at _ _ _ _ rfl]; rfl
  have hku : tu < wu.heap.size := by rw [hwu, htu]; simp
  replace hoT := hoT.below hbx
  replace hoU := hoU.below hbx
  replace k0 := cell_below hbx k0 hk
  replace k1 := cell_below hbx k1 hk
  replace hk := Nat.lt_of_lt_of_le hk hbx.size
  replace hb := below_call hb hbx
  replace hwu := hide hwu
  replace htu := hide htu
  clear hbx
  have hrT := hide (fun (W : World) (hW : Below wu.heap.size wu W) => (hoT.below hW).rows)
  have hrU := hide (fun (W : World) (hW : Below wu.heap.size wu W) => (hoU.below hW).rows)
  replace hoT := hide hoT
  replace hoU := hide hoU
  go_upto_region 6 with fail
  rw [← hwu.out, ← htu.out]
  have hne : (l == l) = true := beq_self_eq_true l
  go_cut [49] from 13 (fun v wc => v = .bool false ∧ Below wu.heap.size wu wc)
  case first =>
    rcases hT : isTabB col zss with _ | _
    · have hpg2 := hpg.out
      rw [hT] at hpg2
      subst hpg2
      have hT' := hide hT
      clear hT
      go_region_law (first
        | (go_simp; go_at_call 9; refine (specIsTab _ _ _ _ _ _ (hrT.out _ (by first | exact hB11 | exact hB11.drew))).mono ?_; rintro e w12 ⟨rfl, hb12⟩; rw [hT'.out]; have hB12 := below_call hB11 (show Below w11.heap.size w11 w12 from ⟨hb12.os, hb12.tape, hb12.output, hb12.size, hb12.block⟩))
        | (go_simp; go_at_call 11; refine (implIsTab _ _ _ _ _ _ (hrT.out _ (by first | exact hB10 | exact hB10.drew))).mono ?_; rintro e w11 ⟨rfl, hb11⟩; rw [hT'.out]; have z0 := cell_below hb11 (by exact y0) hk10; have z1 := cell_below hb11 (by exact y1) hk10; have hB11 := below_call hB10 (show Below w10.heap.size w10 w11 from ⟨hb11.os, hb11.tape, hb11.output, hb11.size, hb11.block⟩))
        | (go_simp; go_at_call 9; refine (specIsTab _ _ _ _ _ _ (hrT.out _ (by first | exact hB9 | exact hB9.drew))).mono ?_; rintro e w10 ⟨rfl, hb10⟩; rw [hT'.out]; have y0 := cell_below hb10 (by exact x0) hk9; have y1 := cell_below hb10 (by exact x1) hk9; have hk10 := Nat.lt_of_lt_of_le hk9 hb10.size; have hB10 := below_call hB9 (show Below w9.heap.size w9 w10 from ⟨hb10.os, hb10.tape, hb10.output, hb10.size, hb10.block⟩))
        | (go_simp; go_at_call 8; refine (hFs.out _ (hrT.out _ (by first | exact Below.refl _ _ | exact (Below.refl _ _).drew))).mono ?_; rintro e w9 ⟨rfl, hb9⟩; have x0 := cell_below hb9 (by exact k0) hk; have x1 := cell_below hb9 (by exact k1) hk; have hk9 : tb < w9.heap.size := Nat.lt_of_lt_of_le hk hb9.size; have hB9 : Below wu.heap.size wu w9 := ⟨hb9.os, hb9.tape, hb9.output, hb9.size, hb9.block⟩))
      all_goals
        go_wp2_with fail
        go_meet
        case rel => exact ⟨rfl, hB12⟩
    · have hpg2 := hpg.out
      rw [hT] at hpg2
      subst hpg2
      have hE := hide (hpe.out hT)
      have hT' := hide hT
      clear hT
      go_region_held3 (fun w' => Below wu.heap.size wu w' ∧ w'.cell? ⟨tb, 0, none⟩ = some (.int .i64 col) ∧ w'.cell? ⟨tb, 1, none⟩ = some (.slice A1 N1 d1) ∧ w'.cell? ⟨tu, 0, none⟩ = some (.int .i64 mU) ∧ w'.cell? ⟨tu, 1, none⟩ = some (.slice AU NU dU))
        (first
          | exact ⟨(Below.refl _ _).drew, by assumption, by assumption, by assumption, by assumption⟩
          | (go_split_ands; exact keep2 (by assumption) (by assumption) (by assumption) (by assumption) (by assumption) hk hku hb9)
          | go_keep)
        (first
          | (go_split_ands; go_at_call 8; refine (hFs.out _ (hrT.out _ ?_)).mono ?_; assumption; rintro e w9 ⟨rfl, hb9⟩)
          | (go_split_ands; go_at_call 9; refine (specIsTab _ _ _ _ _ _ (hrT.out _ ?_)).mono ?_; assumption; rintro e w9 ⟨rfl, hb9⟩; rw [hT'.out])
          | (go_split_ands; go_at_call 11; refine (implIsTab _ _ _ _ _ _ (hrT.out _ ?_)).mono ?_; assumption; rintro e w9 ⟨rfl, hb9⟩; rw [hT'.out])
          | (go_split_ands; go_at_call 10; refine (implEqT _ _ _ _ _ _ _ _ _ _ _ (hrU.out _ ?_) (hrT.out _ ?_)).mono ?_; assumption; assumption; rintro e w9 ⟨rfl, hb9⟩; rw [hE.out]))
      all_goals
        go_split_ands
        go_wp2_with fail
        go_meet
        case rel => exact ⟨rfl, by assumption⟩
  case rest =>
    obtain ⟨rfl, hb6⟩ := hcut
    replace hb := below_call hb hb6
    clear hb6 hrT hrU hoT hoU k0 k1 u0 u1 hk hku hpe hpg hPt hFi hFs hne
    go_wp2_with fail
    refine (drawPrj A n c zs _ (hRl.out _ hb) hz.out hnb).mono ?_
    rintro e w5 ⟨A2, N2, d2, col2, x, zss2, rfl, hN2, hR2, hb1⟩
    replace hb := below_call hb hb1
    have ho2 := hR2.own
    have lz2 := ho2.1
    obtain ⟨ta, hta⟩ : ∃ ta, ta = w5.heap.size := ⟨_, rfl⟩
    obtain ⟨wA, hwA⟩ : ∃ wA, wA = w5.alloc (.cells #[.int .i64 col2, .slice A2 N2 d2] 26) := ⟨_, rfl⟩
    have hba : Below w5.heap.size w5 wA := by rw [hwA]; exact (Below.refl _ _).alloc (Nat.le_refl _) _
    have hoA := ho2.below hba
    have a0 : wA.cell? ⟨ta, 0, none⟩ = some (.int .i64 col2) := by rw [hwA, hta, World.cell?_alloc_at _ _ _ _ rfl]; rfl
    have a1 : wA.cell? ⟨ta, 1, none⟩ = some (.slice A2 N2 d2) := by rw [hwA, hta, World.cell?_alloc_at _ _ _ _ rfl]; rfl
    have hka : ta < wA.heap.size := by rw [hwA, hta]; simp
    replace hb := below_call hb hba
    replace hwA := hide hwA
    replace hta := hide hta
    clear hR2 ho2 hba hb1
    have cS := fun (A : Option Addr) (n c : Nat) (X : World) (hX : RowsAt X X.heap.size A n zss2) => specPrj col2 A n c zss2 x X hX
    have cI := fun (A : Option Addr) (n c : Nat) (X : World) (hX : RowsAt X X.heap.size A n zss2) => implPrj col2 A n c zss2 x X hX
    have hpl := prj_len col2 zss2 x
    have hpn := fun (j : Nat) (a b : List Int) h1 h2 => prj_next col2 zss2 x (j := j) (x := b) (y := a) h1 h2
    unfold RetPs at cS
    unfold RetPj at cI
    generalize prjM col2 zss2 x = Mp at cS cI
    generalize prjR col2 zss2 x = Rp at cS cI hpl hpn
    have heqP := hide (tabEqB_same Mp Rp)
    replace cS := hide cS
    replace cI := hide cI
    replace hpn := hide hpn
    go_upto_region 9 with fail
    rw [← hwA.out, ← hta.out]
    go_wp2_with fail
    refine (cI.out _ _ _ _ hoA.rows).mono ?_
    rintro e w6 ⟨AP, NP, dP, rfl, hoP, hb1⟩
    replace hoA := hoA.below hb1
    replace a0 := cell_below hb1 a0 hka
    replace a1 := cell_below hb1 a1 hka
    replace hka := Nat.lt_of_lt_of_le hka hb1.size
    replace hb := below_call hb hb1
    clear hb1
    obtain ⟨tp, htp⟩ : ∃ tp, tp = w6.heap.size := ⟨_, rfl⟩
    obtain ⟨wP, hwP⟩ : ∃ wP, wP = w6.alloc (.cells #[.int .i64 Mp, .slice AP NP dP] 26) := ⟨_, rfl⟩
    have hbx : Below w6.heap.size w6 wP := by rw [hwP]; exact (Below.refl _ _).alloc (Nat.le_refl _) _
    have p0 : wP.cell? ⟨tp, 0, none⟩ = some (.int .i64 Mp) := by rw [hwP, htp, World.cell?_alloc_at _ _ _ _ rfl]; rfl
    have p1 : wP.cell? ⟨tp, 1, none⟩ = some (.slice AP NP dP) := by rw [hwP, htp, World.cell?_alloc_at _ _ _ _ rfl]; rfl
    have hkp : tp < wP.heap.size := by rw [hwP, htp]; simp
    replace hoA := hoA.below hbx
    replace hoP := hoP.below hbx
    replace a0 := cell_below hbx a0 hka
    replace a1 := cell_below hbx a1 hka
    replace hka := Nat.lt_of_lt_of_le hka hbx.size
    replace hb := below_call hb hbx
    replace hwP := hide hwP
    replace htp := hide htp
    clear hbx
    have lzP := hoP.1
    have hrA := hide (fun (W : World) (hW : Below wP.heap.size wP W) => (hoA.below hW).rows)
    have hrP := hide (fun (W : World) (hW : Below wP.heap.size wP W) => (hoP.below hW).rows)
    replace hoA := hide hoA
    replace hoP := hide hoP
    go_upto_region 10 with fail
    rw [← hwP.out, ← htp.out]
    go_cut [63] from 13 (fun v wc => v = .bool false ∧ Below wP.heap.size wP wc)
    case first =>
      go_region_law (first
        | (go_simp; go_at_call 15; refine (cS.out _ _ _ _ (hrA.out _ (by first | exact Below.refl _ _ | exact (Below.refl _ _).drew))).mono ?_; rintro e w7 ⟨AS, NS, dS, rfl, hS, hb1⟩; have qp0 := cell_below (w := wP.drew) hb1 (by exact p0) (by exact hkp); have qp1 := cell_below (w := wP.drew) hb1 (by exact p1) (by exact hkp); have hbX : Below wP.heap.size wP w7 := ⟨hb1.os, hb1.tape, hb1.output, hb1.size, hb1.block⟩)
        | (go_simp; go_at_call 14; refine (specEqT _ _ _ _ _ _ _ _ Rp Rp _ (hrP.out _ (by first | exact hbX | exact hbX.drew)) (by exact hS)).mono ?_; rintro e w8 ⟨rfl, hb2⟩; rw [heqP.out]))
      all_goals
        go_wp2_with fail
        go_meet
        case rel => exact ⟨rfl, below_call hbX hb2⟩
    case rest =>
      obtain ⟨rfl, hb6⟩ := hcut
      go_wp2_with fail
      go_loopw [10] (fun i wr => ∃ k : Nat, i = .int .i64 (k : Int) ∧ 1 ≤ k ∧ (k ≤ NP ∨ k = 1) ∧ Below wP.heap.size wP wr) (fun i _ => NP - (intOf i).toNat)
      case atStart => exact ⟨1, rfl, by omega, .inr rfl, hb6⟩
      case round =>
        clear hb6
        obtain ⟨k, rfl, hk1, hk2, hbr⟩ := hrel
        have r1 := cell_below hbr p1 hkp
        by_cases hlt : k < NP
        · obtain ⟨j, rfl⟩ : ∃ j, k = j + 1 := ⟨k - 1, by omega⟩
          have hw1 : IntKind.i64.wrap (((j + 1 : Nat) : Int) - 1) = (j : Int) := by rw [show (((j + 1 : Nat) : Int)) - 1 = j by omega]; exact IntWalk.i64_in _ (by omega)
          obtain ⟨b, o, xs, Ax, cx, rfl, hbb, hxs, hcx, hrx⟩ := at_row (hrP.out wr hbr) hlt
          obtain ⟨b', o', ys, Ay, cy, hAe, hbb', hys, hcy, hry⟩ := at_row (k := j) (hrP.out wr hbr) (by omega)
          cases hAe
          have hne := hpn.out j ys xs hys hxs
          have hcall : ∀ z, Calls Tryz.prog 16 #[.slice Ax xs.length cx, .slice Ay ys.length cy] (wr.drewN z) fun e w'' => e = .returned (.bool false) ∧ ∃ m, w'' = wr.drewN m := fun z =>
            Calls.quiet_of (by have := lawSame Ax Ay xs.length cx ys.length cy xs ys (wr.drewN z) hrx hry; rw [hne] at this; exact this)
          have i1 : (((j + 1 : Nat) : Int)) < (NP : Int) := by omega
          have i2 : (j : Int) < (NP : Int) := by omega
          generalize xs.length = lx at *
          generalize ys.length = ly at *
          replace hcall := hide hcall
          replace hne := hide hne
          replace hxs := hide hxs
          replace hys := hide hys
          clear hrx hry
          obtain ⟨k, hkj⟩ : ∃ k, k = j + 1 := ⟨_, rfl⟩
          rw [← hkj] at hw1 hcx i1 hlt hk1 hk2
          rw [← hkj]
          replace hkj := hide hkj
          go_wp2_with fail
          go_quiet ((go_at_call 16; exact hcall.out _))
          go_wp2_with fail
          go_roundw
          case rel => exact ⟨k + 1, by go_num, by omega, .inl (by omega), below_drewN hbr _⟩
          case measure => simp [intOf]; omega
        · have hbw := below_call hb hbr
          have s1 := cell_below hbr a1 hka
          have hka2 := Nat.lt_of_lt_of_le hka hbr.size
          have hkp2 := Nat.lt_of_lt_of_le hkp hbr.size
          clear a0 a1 p0 p1
          go_wp2_with fail
          refine (drawCol A n c zs _ (hRl.out _ hbw) hz.out hnb).mono ?_
          rintro e w9 ⟨A3, N3, d3, col3, y, zss3, rfl, hN3, hR3, hb1⟩
          have ho3 := hR3.own
          replace r1 := cell_below hb1 r1 hkp2
          replace s1 := cell_below hb1 s1 hka2
          replace hbw := below_call hbw hb1
          replace hka2 := Nat.lt_of_lt_of_le hka2 hb1.size
          replace hkp2 := Nat.lt_of_lt_of_le hkp2 hb1.size
          obtain ⟨tc, htc⟩ : ∃ tc, tc = w9.heap.size := ⟨_, rfl⟩
          obtain ⟨wC, hwC⟩ : ∃ wC, wC = w9.alloc (.cells #[.int .i64 col3, .slice A3 N3 d3] 26) := ⟨_, rfl⟩
          have hbx : Below w9.heap.size w9 wC := by rw [hwC]; exact (Below.refl _ _).alloc (Nat.le_refl _) _
          have c0 : wC.cell? ⟨tc, 0, none⟩ = some (.int .i64 col3) := by rw [hwC, htc, World.cell?_alloc_at _ _ _ _ rfl]; rfl
          have c1 : wC.cell? ⟨tc, 1, none⟩ = some (.slice A3 N3 d3) := by rw [hwC, htc, World.cell?_alloc_at _ _ _ _ rfl]; rfl
          have hkc : tc < wC.heap.size := by rw [hwC, htc]; simp
          have hoC := ho3.below hbx
          replace r1 := cell_below hbx r1 hkp2
          replace s1 := cell_below hbx s1 hka2
          replace hbw := below_call hbw hbx
          replace hka2 := Nat.lt_of_lt_of_le hka2 hbx.size
          replace hkp2 := Nat.lt_of_lt_of_le hkp2 hbx.size
          replace hwC := hide hwC
          replace htc := hide htc
          have hrC := hide (fun (W : World) (hW : Below wC.heap.size wC W) => (hoC.below hW).rows)
          have cIc := fun (X : World) (hX : RowsAt X X.heap.size A3 N3 zss3) => implCol col3 A3 N3 d3 zss3 y X hX
          have cSc := fun (X : World) (hX : RowsAt X X.heap.size A3 N3 zss3) => specCol col3 A3 N3 d3 zss3 y X hX
          unfold RetRow at cIc cSc
          generalize colV col3 zss3 y = V3 at cIc cSc
          replace cIc := hide cIc
          replace cSc := hide cSc
          have e1 : decide ((NP : Int) ≤ (N2 : Int)) = true := by simp; omega
          have e1' : decide (NP ≤ N2) = true := by simp; omega
          replace hoC := hide hoC
          clear hR3 ho3 hb1 hbx hbr
          go_upto_region 18 with fail
          rw [← hwC.out, ← htc.out]
          go_region_held3 (fun w' => Below wC.heap.size wC w' ∧ w'.cell? ⟨tp, 1, none⟩ = some (.slice AP NP dP) ∧ w'.cell? ⟨ta, 1, none⟩ = some (.slice A2 N2 d2) ∧ w'.cell? ⟨tc, 0, none⟩ = some (.int .i64 col3) ∧ w'.cell? ⟨tc, 1, none⟩ = some (.slice A3 N3 d3))
            (first
              | exact ⟨(Below.refl _ _).drew, by assumption, by assumption, by assumption, by assumption⟩
              | (go_split_ands; refine ⟨below_call (by assumption) hb9, ?_, ?_, ?_, ?_⟩ <;> refine cell_below hb9 (by assumption) ?_ <;> (have hsz := (show Below wC.heap.size wC _ by assumption).size; omega))
              | go_keep)
            (first
              | (go_split_ands; go_at_call 18; refine (cIc.out _ (hrC.out _ ?_)).mono ?_; assumption; rintro e w10 ⟨A8, n8, c8, rfl, ho8, hb9⟩)
              | (go_split_ands; go_at_call 19; refine (cSc.out _ (hrC.out _ ?_)).mono ?_; assumption; rintro e w11 ⟨A9, n9, c9, rfl, ho9, hb9⟩; have ho8' := own_below (by exact ho8) hb9)
              | (go_split_ands; go_at_call 16; refine (lawSame1 _ _ _ _ _ _ V3 _ (Reads.of_own (by exact ho8')) (Reads.of_own (by exact ho9))).mono ?_; rintro e w12 ⟨rfl, hb9⟩))
          all_goals
            go_split_ands
            go_wp2_with fail
            go_ret
            exact ⟨rfl, below_call hbw (by assumption)⟩
end Go.Proofs.YtooiobcghobefaaGreatDoor.lFnTables
