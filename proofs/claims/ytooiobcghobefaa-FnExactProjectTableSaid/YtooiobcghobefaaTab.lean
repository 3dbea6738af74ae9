/-
  Walks of the laws' own helpers over tables: sizes, copies, comparisons.
  Conditions: as each theorem says.
-/
import Derived.Test.YtooiobcghobefaaRows0
namespace Go.Proofs.Ytooiobcghobefaa
open Go.RowKit
set_option linter.unusedVariables false

theorem RowsAt.alloc {w : World} {B n : Nat} {A : Option Addr} {zss : List (List Int)} (h : RowsAt w B A n zss) (hB : B ≤ w.heap.size) (o : Obj) : RowsAt (w.alloc o) B A n zss := h.keep fun p hp => World.cell?_alloc_lt w o p (by omega)

theorem RowsAt.later {w W : World} {n : Nat} {A : Option Addr} {zss : List (List Int)} (h : RowsAt w w.heap.size A n zss) (hb : Below w.heap.size w W) : RowsAt W W.heap.size A n zss := (h.below hb).more hb.size

set_option maxRecDepth 100000 in
theorem szTab (m : Int) (A : Option Addr) (n c : Nat) (zss : List (List Int)) (left : Int) (w : World) (h : RowsAt w w.heap.size A n zss) (h0 : 0 ≤ left) (h1 : left ≤ 1048576) :
    Calls Try.prog 4 #[.agg #[.int .i64 m, .slice A n c], .int .i64 left] w (RetVal w (.int .i64 (szV left ((n + lens zss : Nat) : Int)))) := by
  have h' := (h.alloc (Nat.le_refl _) (.cells #[.int .i64 m, .slice A n c] 24)).more (B' := (w.alloc (.cells #[.int .i64 m, .slice A n c] 24)).heap.size) (by simp)
  by_cases hc : ((n + lens zss : Nat) : Int) ≤ left
  · have hez := hide (szV_yes hc)
    have g : decide (left - ((n + lens zss : Nat) : Int) < 0) = false := by simp; omega
    go_enter Try.func4, Try.ntmps4
    go_wp2_with fail
    refine (szRows _ _ _ _ _ _ h' h0 h1).mono ?_
    rintro e w' ⟨rfl, rfl⟩
    rw [hez.out]
    go_wp2_with fail
    go_ret
    exact ⟨ret_int hez.out.symm, by go_grown⟩
  · have hez := hide (szV_no (left := left) (tot := ((n + lens zss : Nat) : Int)) (by omega))
    go_enter Try.func4, Try.ntmps4
    go_wp2_with fail
    refine (szRows _ _ _ _ _ _ h' h0 h1).mono ?_
    rintro e w' ⟨rfl, rfl⟩
    rw [hez.out]
    go_wp2_with fail
    go_ret
    exact ⟨ret_int hez.out.symm, by go_grown⟩

/-- A table in the call's own memory. -/
def RetTab (w : World) (m : Int) (zss : List (List Int)) (e : Ending) (w' : World) : Prop :=
  ∃ A n c, e = .returned (.agg #[.int .i64 m, .slice A n c]) ∧ OwnRows w' w.heap.size A n c zss ∧ Below w.heap.size w w'

set_option maxHeartbeats 800000 in
set_option maxRecDepth 100000 in
theorem toTab (m : Int) (A : Option Addr) (n c : Nat) (zss : List (List Int)) (w : World) (h : RowsAt w w.heap.size A n zss) (hb0 : n + lens zss ≤ 1048576) :
    Calls Try.prog 6 #[.agg #[.int .i64 m, .slice A n c]] w (RetTab w m zss) := by
  go_enter Try.func6, Try.ntmps6
  go_wp2_with fail
  refine (toRows _ _ _ zss _ (h.later ?_) hb0).mono ?_
  · go_grown
  rintro e w1 ⟨A2, n2, c2, rfl, hown, hb⟩
  obtain ⟨hc, hf⟩ := bcell hb
  have hbb : Below w.heap.size w w1 := by
    refine Below.trans ?_ (hb.mono ?_)
    · go_grown
    · simp; omega
  have hz := hb.size
  simp at hz
  have hown' : OwnRows w1 (w.heap.size + 3) A2 n2 c2 zss := hown.more (by simp)
  clear hown hb h
  go_wp2_with fail
  refine bodyPost_ret (v := .agg #[.int .i64 m, .slice A2 n2 c2]) (by simp [results, Try.results6, go_sem, hc]) rfl ⟨_, _, _, rfl, ?_, ?_⟩
  · exact (((hown'.setBelow (by show w.heap.size + 1 + 1 < _; omega) _).setBelow (by show w.heap.size + 1 < _; omega) _).setBelow (by show w.heap.size + 1 < _; omega) _).more (by omega)
  · go_grown

/-! ### Comparisons -/
theorem rows_ne_of_at {xss yss : List (List Int)} {k : Nat} {xs ys : List Int} (hx : xss[k]? = some xs) (hy : yss[k]? = some ys) (h : (xs == ys) = false) : (xss == yss) = false := by
  rw [beq_eq_false_iff_ne] at h ⊢
  exact ne_of_at hx hy h
set_option maxHeartbeats 1600000 in
set_option maxRecDepth 100000 in
theorem eqRowsQ (A B : Option Addr) (n c m d : Nat) (xss yss : List (List Int)) (w : World) (hx : RowsAt w w.heap.size A n xss) (hy : RowsAt w w.heap.size B m yss) :
    Calls Try.prog 24 #[.slice A n c, .slice B m d] w (RetQuiet w (.bool (xss == yss))) := by
  have hn := rows_bound hx
  have hm := rows_bound hy
  have lx := hx.1
  have ly := hy.1
  by_cases hnm : n = m
  · subst hnm
    replace lx := hide lx
    replace ly := hide ly
    go_enter Try.func24, Try.ntmps24
    go_wp2_with fail
    go_loopw [5] (fun i wr => ∃ k q : Nat, k ≤ n ∧ i = .int .i64 (k : Int) ∧ xss.take k = yss.take k ∧ wr = w.drewN q) (fun i _ => n - (intOf i).toNat)
    case atStart => exact ⟨0, 0, Nat.zero_le _, rfl, by simp, rfl⟩
    case round =>
      obtain ⟨k, q, hk, rfl, ht, hwr⟩ := hrel
      have hsz : wr.heap.size = w.heap.size := by rw [hwr]; rfl
      by_cases hlt : k < n
      · obtain ⟨b, o, xs, A', c', rfl, hbb, hx1, hc1, hr1⟩ := at_row (show RowsAt wr w.heap.size A n xss by rw [hwr]; exact hx) hlt
        obtain ⟨b', o', ys, B', d', rfl, hbb', hy1, hc2, hr2⟩ := at_row (show RowsAt wr w.heap.size B n yss by rw [hwr]; exact hy) hlt
        rw [← hsz] at hr1 hr2
        replace hwr := hide hwr
        replace ht := hide ht
        replace hx1 := hide hx1
        replace hy1 := hide hy1
        replace hsz := hide hsz
        have hcall : ∀ z, Calls Try.prog 40 #[.slice A' xs.length c', .slice B' ys.length d'] (wr.drewN z) fun e w'' => e = .returned (.bool (xs == ys)) ∧ ∃ m, w'' = wr.drewN m := fun z =>
          Calls.quiet_of (eqIntsQ A' B' xs.length c' ys.length d' xs ys (wr.drewN z) hr1 hr2)
        rcases hq : (xs == ys) with _ | _
        · rw [hq] at hcall
          have e := hide (rows_ne_of_at hx1.out hy1.out hq)
          replace hcall := hide hcall
          replace hq := hide hq
          clear hr1 hr2
          go_wp2_with fail
          go_quiet ((go_at_call 40; exact hcall.out _))
          go_wp2_with fail
          go_ret
          exact ⟨ret_bool e.out.symm, _, by rw [hwr.out, World.drewN_drewN]⟩
        · rw [hq] at hcall
          rw [beq_iff_eq] at hq
          subst hq
          have e := hide (take_eq_succ ht.out hx1.out hy1.out)
          replace hcall := hide hcall
          clear hr1 hr2
          go_wp2_with fail
          go_quiet ((go_at_call 40; exact hcall.out _))
          go_wp2_with fail
          go_roundw
          case rel => exact ⟨k + 1, q + nq, by omega, by go_num, e.out, by rw [hwr.out, World.drewN_drewN]⟩
          case measure => simp [intOf]; omega
      · obtain rfl : k = n := by omega
        replace ht := hide ht
        replace hwr := hide hwr
        clear hsz
        go_wp2_with fail
        go_ret
        exact ⟨ret_bool (by
          rw [eq_comm, beq_iff_eq]
          have := ht.out
          rwa [List.take_of_length_le (by rw [lx.out]; exact Nat.le_refl _), List.take_of_length_le (by rw [ly.out]; exact Nat.le_refl _)] at this), _, hwr.out⟩
  · have hq : ((n : Int) != (m : Int)) = true := by rw [bne_iff_ne]; omega
    have e : (xss == yss) = false := by rw [beq_eq_false_iff_ne]; rintro rfl; omega
    rw [e]
    clear e hnm lx ly
    go_enter Try.func24, Try.ntmps24
    go_wp2_with fail
    go_ret
    exact ⟨rfl, 0, rfl⟩

def tabEqB (m1 m2 : Int) (xss yss : List (List Int)) : Bool := (m1 == m2) && (xss == yss)
theorem tabEqB_same (m : Int) (xss : List (List Int)) : tabEqB m m xss xss = true := by simp [tabEqB]
set_option maxHeartbeats 1600000 in
set_option maxRecDepth 100000 in
theorem eqTab (m1 m2 : Int) (A B : Option Addr) (n c m d : Nat) (xss yss : List (List Int)) (w : World) (hx : RowsAt w w.heap.size A n xss) (hy : RowsAt w w.heap.size B m yss) :
    Calls Try.prog 8 #[.agg #[.int .i64 m1, .slice A n c], .agg #[.int .i64 m2, .slice B m d]] w (RetVal w (.bool (tabEqB m1 m2 xss yss))) := by
  rcases hm : (m1 == m2) with _ | _
  · have e : tabEqB m1 m2 xss yss = false := by simp [tabEqB, hm]
    rw [e]
    have hq : (m1 != m2) = true := by rw [bne, hm]; rfl
    clear e hm
    go_enter Try.func8, Try.ntmps8
    go_wp2_with fail
    go_ret
    exact ⟨rfl, by go_grown⟩
  · have e : tabEqB m1 m2 xss yss = (xss == yss) := by simp [tabEqB, hm]
    rw [e]
    have hq : (m1 != m2) = false := by rw [bne, hm]; rfl
    clear e hm
    rcases hxy : (xss == yss) with _ | _
    all_goals
      replace hxy := hide hxy
      go_enter Try.func8, Try.ntmps8
      go_wp2_with fail
      refine (eqRowsQ _ _ _ _ _ _ xss yss _ (hx.later ?_) (hy.later ?_)).mono ?_
      · go_grown
      · go_grown
      rintro e w1 ⟨rfl, q, rfl⟩
      rw [hxy.out]
      go_wp2_with fail
      go_ret
      exact ⟨rfl, below_drewN (by go_grown) _⟩
end Go.Proofs.Ytooiobcghobefaa
