/-
  Walk of the reference's l3Merge: the different rows of two lists of different rows in order.
  Conditions: as each theorem says.
-/
import Derived.Test.YtooiobcghobefaaGreatDoorLessS
namespace Go.Proofs.YtooiobcghobefaaGreatDoor
open Go.RowKit
set_option linter.unusedVariables false

theorem below_drew0 {B : Nat} {a w w' : World} (h : Below B a w) (e : w'.heap = w.heap ∧ w'.os = w.os ∧ w'.tape = w.tape ∧ w'.output = w.output) : Below B a w' := by
  obtain ⟨e1, e2, e3, e4⟩ := e
  exact ⟨e2.trans h.os, e3.trans h.tape, e4.trans h.output, by rw [e1]; exact h.size, fun k hk => by have := h.block k hk; rw [← this]; simp [e1]⟩
set_option maxHeartbeats 3200000 in
set_option maxRecDepth 100000 in
theorem l3merge (G : Nat) (A B : Option Addr) (n c m d : Nat) (us ys : List (List Int)) (w : World) (hA : RowsAt w w.heap.size A n us) (hB : RowsAt w w.heap.size B m ys) (sa : SSL us) (sb : SSL ys) (hn : n ≤ 1000000) (hm : m ≤ 1000000) (hG : G < w.heap.size) (vA : AvI G w A n) (vB : AvI G w B m) :
    Calls Tryz.prog 64 #[.slice A n c, .slice B m d] w (RetRd G w (onceL (us ++ ys))) := by
  have la : us.length = n := hA.1
  have lb : ys.length = m := hB.1
  have hst := own_start w 37
  have hal : Below w.heap.size w (w.alloc (.cells #[] 37)) := (Below.refl _ _).alloc (Nat.le_refl _) _
  replace sa := hide sa
  replace vA := hide vA
  replace vB := hide vB
  replace sb := hide sb
  go_enter Tryz.func64, Tryz.ntmps64
  go_wp2_with fail
  go_loopw [5, 6, 7] (fun u i j wr => ∃ (i' k' N c' : Nat) (A' : Option Addr) (out : List (List Int)) (vs : List Value), u = .slice A' N c' ∧ i = .int .i64 (i' : Int) ∧ j = .int .i64 (k' : Int) ∧ i' ≤ n ∧ k' ≤ m ∧ wr.ownsRow w.heap.size 37 1 (.slice A' N c') N vs ∧ RdL G w w.heap.size vs out ∧ MrgI us ys i' k' out ∧ Below w.heap.size w wr) (fun _ i j _ => n + m - (intOf i).toNat - (intOf j).toNat)
  case atStart => exact ⟨0, 0, 0, 0, _, [], [], rfl, rfl, rfl, by omega, by omega, hst, RdL.nil _ _ _, MrgI.start _ _, hal⟩
  case round =>
    clear hst hal
    obtain ⟨i, k, N, c1, A1, out, vs, rfl, rfl, rfl, hi, hk, hown, hRd, hM, hb⟩ := hrel
    have hNl : out.length = N := by have := own_len hown; have := hRd.1; omega
    have hN : N ≤ n + m := by have := hM.len (by omega) (by omega); omega
    have hown0 := hown
    replace hNl := hide hNl
    replace hRd := hide hRd
    by_cases hi1 : i < n
    · obtain ⟨ba, oa, x, Ax, cx, rfl, hba, hx, hcx0, hrx⟩ := at_row hA hi1
      have hcx : wr.cell? ⟨ba, oa + i, none⟩ = some (.slice Ax x.length cx) := (hb.cell (p := ⟨ba, oa + i, none⟩) hba).trans hcx0
      have hvx := hide (show RdRow G w w.heap.size (.slice Ax x.length cx) x from ⟨Ax, cx, rfl, hrx, vA.out _ _ _ _ _ _ rfl hi1 hcx0⟩)
      have hrx' := (hrx.below hb).more hb.size
      by_cases hk1 : k < m
      · obtain ⟨bb, ob, y, Ay, cy, rfl, hbb, hy, hcy0, hry⟩ := at_row hB hk1
        have hcy : wr.cell? ⟨bb, ob + k, none⟩ = some (.slice Ay y.length cy) := (hb.cell (p := ⟨bb, ob + k, none⟩) hbb).trans hcy0
        have hvy := hide (show RdRow G w w.heap.size (.slice Ay y.length cy) y from ⟨Ay, cy, rfl, hry, vB.out _ _ _ _ _ _ rfl hk1 hcy0⟩)
        have hry' := (hry.below hb).more hb.size
        have e1 : decide ((k : Int) = (m : Int)) = false := by simp; omega
        have e1' : ((k : Int) == (m : Int)) = false := by simp; omega
        have e2 : decide ((i : Int) = (n : Int)) = false := by simp; omega
        have e2' : ((i : Int) == (n : Int)) = false := by simp; omega
        have e3 : decide ((i : Int) < (n : Int)) = true := by simp; omega
        have e3' : decide (i < n) = true := by simp; omega
        have hcall : ∀ z, Calls Tryz.prog 84 #[.slice Ax x.length cx, .slice Ay y.length cy] (wr.drewN z) fun e w'' => e = .returned (.bool (lexL x y)) ∧ ∃ m, w'' = wr.drewN m := fun z =>
          Calls.quiet_of (l3less Ax Ay x.length cx y.length cy x y (wr.drewN z) hrx' hry')
        have hcall2 : ∀ q z, Calls Tryz.prog 84 #[.slice Ay y.length cy, .slice Ax x.length cx] ((wr.drewN q).drewN z) fun e w'' => e = .returned (.bool (lexL y x)) ∧ ∃ m, w'' = (wr.drewN q).drewN m := fun q z =>
          Calls.quiet_of (l3less Ay Ax y.length cy x.length cx y x ((wr.drewN q).drewN z) hry' hrx')
        have sA := hide (show lexL x y = true → MrgI us ys (i + 1) k (out ++ [x]) from fun h => hM.stepA sa.out sb.out hx fun y' hy' => by rw [hy] at hy'; cases hy'; exact h)
        have sB := hide (show lexL y x = true → MrgI us ys i (k + 1) (out ++ [y]) from fun h => hM.stepB sa.out sb.out hy fun x' hx' => by rw [hx] at hx'; cases hx'; exact h)
        have sC := hide (show lexL x y = false → lexL y x = false → MrgI us ys i (k + 1) out from fun h h' => hM.stepC hx hy h h')
        generalize x.length = lx at *
        generalize y.length = ly at *
        replace hown := hide hown
        replace hM := hide hM
        replace hx := hide hx
        replace hy := hide hy
        clear hrx hry hrx' hry' hcx0 hcy0 hown0
        rcases h1 : lexL x y with _ | _
        · rw [h1] at hcall
          have h1' := hide h1
          clear h1
          rcases h2 : lexL y x with _ | _
          · rw [h2] at hcall2
            have h2' := hide h2
            clear h2
            replace hcall := hide hcall
            replace hcall2 := hide hcall2
            go_wp2_with fail
            go_quiet ((go_at_call 84; exact hcall.out _))
            obtain ⟨w1, hw1⟩ : ∃ X : World, X = wr.drewN nq := ⟨_, rfl⟩
            rw [← hw1]
            have hcx1 : w1.cell? ⟨ba, oa + i, none⟩ = some (.slice Ax lx cx) := by rw [hw1]; exact hcx
            have hcy1 : w1.cell? ⟨bb, ob + k, none⟩ = some (.slice Ay ly cy) := by rw [hw1]; exact hcy
            have hown1 := hide (show w1.ownsRow w.heap.size 37 1 (.slice A1 N c1) N vs by rw [hw1]; exact hown.out)
            have hb1 : Below w.heap.size w w1 := by rw [hw1]; exact below_drewN hb _
            have hcall3 : ∀ z, Calls Tryz.prog 84 #[.slice Ay ly cy, .slice Ax lx cx] (w1.drewN z) fun e w'' => e = .returned (.bool (false)) ∧ ∃ m, w'' = w1.drewN m := by rw [hw1]; exact fun z => hcall2.out _ z
            replace hw1 := hide hw1
            replace hcall3 := hide hcall3
            clear hcx hcy
            go_wp2_with fail
            go_quiet ((go_at_call 84; exact hcall3.out _))
            go_wp2_with fail
            go_roundw
            case rel => exact ⟨i, k + 1, N, c1, A1, out, vs, rfl, rfl, by go_num, by omega, by omega, hown1.out, hRd.out, sC.out h1'.out h2'.out, below_drewN hb1 _⟩
            case measure => simp [intOf]; omega
          · rw [h2] at hcall2
            have h2' := hide h2
            clear h2
            replace hcall := hide hcall
            replace hcall2 := hide hcall2
            go_wp2_with fail
            go_quiet ((go_at_call 84; exact hcall.out _))
            obtain ⟨w1, hw1⟩ : ∃ X : World, X = wr.drewN nq := ⟨_, rfl⟩
            rw [← hw1]
            have hcx1 : w1.cell? ⟨ba, oa + i, none⟩ = some (.slice Ax lx cx) := by rw [hw1]; exact hcx
            have hcy1 : w1.cell? ⟨bb, ob + k, none⟩ = some (.slice Ay ly cy) := by rw [hw1]; exact hcy
            have hown1 := hide (show w1.ownsRow w.heap.size 37 1 (.slice A1 N c1) N vs by rw [hw1]; exact hown.out)
            have hb1 : Below w.heap.size w w1 := by rw [hw1]; exact below_drewN hb _
            have hcall3 : ∀ z, Calls Tryz.prog 84 #[.slice Ay ly cy, .slice Ax lx cx] (w1.drewN z) fun e w'' => e = .returned (.bool (true)) ∧ ∃ m, w'' = w1.drewN m := by rw [hw1]; exact fun z => hcall2.out _ z
            replace hw1 := hide hw1
            replace hcall3 := hide hcall3
            clear hcx hcy
            go_wp2_with fail
            go_quiet ((go_at_call 84; exact hcall3.out _))
            go_wp2_with (at_builtin; refine wpList_push elemS rfl (.tmp 68) (.tmp 73) (w1.drewN nq) (.slice Ay ly cy) rfl w.heap.size (.slice A1 N c1) N vs rfl rfl (show (w1.drewN nq).ownsRow w.heap.size 37 1 (.slice A1 N c1) N vs from hown1.out) rfl (by omega) hb1.size ?_; intro A5 c5 w5 hown5 hg5 hat5; have hb5 := below_push (below_drew0 hb1 (show (w1.drewN nq).heap = _ ∧ (w1.drewN nq).os = _ ∧ (w1.drewN nq).tape = _ ∧ (w1.drewN nq).output = _ from ⟨rfl, rfl, rfl, rfl⟩)) hb1.size (show (w1.drewN nq).ownsRow w.heap.size 37 1 (.slice A1 N c1) N vs from hown1.out) hg5; clear hg5 hat5)
            go_roundw
            case rel => exact ⟨i, k + 1, N + 1, c5, A5, out ++ [y], vs ++ [.slice Ay ly cy], rfl, rfl, by go_num, by omega, by omega, hown5, hRd.out.snoc hvy.out, sB.out h2'.out, hb5⟩
            case measure => simp [intOf]; omega
        · rw [h1] at hcall
          have h1' := hide h1
          clear h1 hcall2
          replace hcall := hide hcall
          go_wp2_with fail
          go_quiet ((go_at_call 84; exact hcall.out _))
          go_wp2_with (at_builtin; refine wpList_push elemS rfl (.tmp 43) (.tmp 48) (wr.drewN nq) (.slice Ax lx cx) rfl w.heap.size (.slice A1 N c1) N vs rfl rfl (show (wr.drewN nq).ownsRow w.heap.size 37 1 (.slice A1 N c1) N vs from hown.out) rfl (by omega) hb.size ?_; intro A5 c5 w5 hown5 hg5 hat5; have hb5 := below_push (below_drew0 hb (show (wr.drewN nq).heap = _ ∧ (wr.drewN nq).os = _ ∧ (wr.drewN nq).tape = _ ∧ (wr.drewN nq).output = _ from ⟨rfl, rfl, rfl, rfl⟩)) hb.size (show (wr.drewN nq).ownsRow w.heap.size 37 1 (.slice A1 N c1) N vs from hown.out) hg5; clear hg5 hat5)
          go_roundw
          case rel => exact ⟨i + 1, k, N + 1, c5, A5, out ++ [x], vs ++ [.slice Ax lx cx], rfl, by go_num, rfl, by omega, by omega, hown5, hRd.out.snoc hvx.out, sA.out h1'.out, hb5⟩
          case measure => simp [intOf]; omega
      · obtain rfl : k = m := by omega
        have sA := hide (hM.stepA sa.out sb.out hx fun y' hy' => by have := (List.getElem?_eq_some_iff.1 hy').1; omega)
        have e1 : decide ((k : Int) = (k : Int)) = true := by simp
        have e1' : ((k : Int) == (k : Int)) = true := by simp
        generalize x.length = lx at *
        replace hown := hide hown
        replace hM := hide hM
        replace hx := hide hx
        clear hrx hrx' hcx0 hown0
        go_wp2_with fail
        go_quiet (fail)
        go_wp2_with (at_builtin; refine wpList_push elemS rfl (.tmp 43) (.tmp 48) (wr.drewN nq) (.slice Ax lx cx) rfl w.heap.size (.slice A1 N c1) N vs rfl rfl (show (wr.drewN nq).ownsRow w.heap.size 37 1 (.slice A1 N c1) N vs from hown.out) rfl (by omega) hb.size ?_; intro A5 c5 w5 hown5 hg5 hat5; have hb5 := below_push (below_drew0 hb (show (wr.drewN nq).heap = _ ∧ (wr.drewN nq).os = _ ∧ (wr.drewN nq).tape = _ ∧ (wr.drewN nq).output = _ from ⟨rfl, rfl, rfl, rfl⟩)) hb.size (show (wr.drewN nq).ownsRow w.heap.size 37 1 (.slice A1 N c1) N vs from hown.out) hg5; clear hg5 hat5)
        go_roundw
        case rel => exact ⟨i + 1, k, N + 1, c5, A5, out ++ [x], vs ++ [.slice Ax lx cx], rfl, by go_num, rfl, by omega, by omega, hown5, hRd.out.snoc hvx.out, sA.out, hb5⟩
        case measure => simp [intOf]; omega
    · obtain rfl : i = n := by omega
      by_cases hk1 : k < m
      · obtain ⟨bb, ob, y, Ay, cy, rfl, hbb, hy, hcy0, hry⟩ := at_row hB hk1
        have hcy : wr.cell? ⟨bb, ob + k, none⟩ = some (.slice Ay y.length cy) := (hb.cell (p := ⟨bb, ob + k, none⟩) hbb).trans hcy0
        have hvy := hide (show RdRow G w w.heap.size (.slice Ay y.length cy) y from ⟨Ay, cy, rfl, hry, vB.out _ _ _ _ _ _ rfl hk1 hcy0⟩)
        have sB := hide (hM.stepB sa.out sb.out hy fun x' hx' => by have := (List.getElem?_eq_some_iff.1 hx').1; omega)
        have e1 : decide ((k : Int) = (m : Int)) = false := by simp; omega
        have e1' : ((k : Int) == (m : Int)) = false := by simp; omega
        have e2 : decide ((i : Int) = (i : Int)) = true := by simp
        have e2' : ((i : Int) == (i : Int)) = true := by simp
        have e3 : decide ((i : Int) < (i : Int)) = false := by simp
        have e3' : decide (i < i) = false := by simp
        have e4 : decide ((k : Int) < (m : Int)) = true := by simp; omega
        have e4' : decide (k < m) = true := by simp; omega
        generalize y.length = ly at *
        replace hown := hide hown
        replace hM := hide hM
        replace hy := hide hy
        clear hry hcy0 hown0
        go_wp2_with fail
        go_quiet (fail)
        obtain ⟨w1, hw1⟩ : ∃ X : World, X = wr.drewN nq := ⟨_, rfl⟩
        rw [← hw1]
        have hcy1 : w1.cell? ⟨bb, ob + k, none⟩ = some (.slice Ay ly cy) := by rw [hw1]; exact hcy
        have hown1 := hide (show w1.ownsRow w.heap.size 37 1 (.slice A1 N c1) N vs by rw [hw1]; exact hown.out)
        have hb1 : Below w.heap.size w w1 := by rw [hw1]; exact below_drewN hb _
        replace hw1 := hide hw1
        clear hcy
        go_wp2_with fail
        go_quiet (fail)
        go_wp2_with (at_builtin; refine wpList_push elemS rfl (.tmp 68) (.tmp 73) (w1.drewN nq) (.slice Ay ly cy) rfl w.heap.size (.slice A1 N c1) N vs rfl rfl (show (w1.drewN nq).ownsRow w.heap.size 37 1 (.slice A1 N c1) N vs from hown1.out) rfl (by omega) hb1.size ?_; intro A5 c5 w5 hown5 hg5 hat5; have hb5 := below_push (below_drew0 hb1 (show (w1.drewN nq).heap = _ ∧ (w1.drewN nq).os = _ ∧ (w1.drewN nq).tape = _ ∧ (w1.drewN nq).output = _ from ⟨rfl, rfl, rfl, rfl⟩)) hb1.size (show (w1.drewN nq).ownsRow w.heap.size 37 1 (.slice A1 N c1) N vs from hown1.out) hg5; clear hg5 hat5)
        go_roundw
        case rel => exact ⟨i, k + 1, N + 1, c5, A5, out ++ [y], vs ++ [.slice Ay ly cy], rfl, rfl, by go_num, by omega, by omega, hown5, hRd.out.snoc hvy.out, sB.out, hb5⟩
        case measure => simp [intOf]; omega
      · obtain rfl : k = m := by omega
        have hd := hide (hM.done (by omega) (by omega))
        have e3 : decide ((i : Int) < (i : Int)) = false := by simp
        have e3' : decide (i < i) = false := by simp
        have e4 : decide ((k : Int) < (k : Int)) = false := by simp
        have e4' : decide (k < k) = false := by simp
        replace hown := hide hown
        replace hM := hide hM
        clear hown0
        go_wp2_with fail
        go_ret
        exact ⟨A1, N, c1, rfl, by rw [← hd.out]; exact rows_of_rd hown.out hRd.out hb, hb, avO_own hown.out hG, avI_of_rd hown.out hRd.out⟩
end Go.Proofs.YtooiobcghobefaaGreatDoor
