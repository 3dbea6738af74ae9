/-
  Marks in lists of lists: found again; comparisons of lists of lists.
  Conditions: as each theorem says.
-/
import Derived.Test.YtooiobcghobefaaMark
import Derived.Test.YtooiobcghobefaaTab
namespace Go.Proofs.Ytooiobcghobefaa
open Go.RowKit
set_option linter.unusedVariables false

theorem OwnRows.marked {B H B' n c : Nat} {w w' : World} {A : Option Addr} {zss : List (List Int)} (h : OwnRows w B' A n c zss) (hm : Marked B H w w') (hB : H ≤ B') : OwnRows w' B' A n c zss := by
  obtain ⟨h1, vs, h2, h3, h4⟩ := h
  refine ⟨h1, vs, hm.own h2 hB, fun i zs hi => ?_, h4⟩
  obtain ⟨A', c', h5, h6⟩ := h3 i zs hi
  exact ⟨A', c', h5, hm.own h6 hB⟩
/-- The outer cells of a list of lists that lies above the marks are as they were. -/
theorem under_marked {B H B' K n c : Nat} {w w' : World} {A : Option Addr} {zss : List (List Int)} (hu : Under K w A n) (h : OwnRows w B' A n c zss) (hm : Marked B H w w') (hB : H ≤ B') : Under K w' A n := by
  rintro b o rfl j A' l c' hj hc
  obtain ⟨h1, vs, h2, h3, h4⟩ := h
  have hbb := h2.lt b (by simp [Value.ownBlock])
  have ho : o = 0 := by
    rcases h2.2 with ⟨hv, _⟩ | ⟨g, cap, cur, hv, _⟩
    · cases hv
    · cases hv; rfl
  subst ho
  have e1 := h2.cellAt j (by omega)
  have e2 := (hm.own h2 hB).cellAt j (by omega)
  rw [Nat.zero_add] at hc
  refine hu b 0 rfl j A' l c' hj ?_
  rw [Nat.zero_add, e1, ← e2]
  exact hc
theorem eqRowsV (A B : Option Addr) (n c m d : Nat) (xss yss : List (List Int)) (w : World) (hx : RowsAt w w.heap.size A n xss) (hy : RowsAt w w.heap.size B m yss) :
    Calls Try.prog 24 #[.slice A n c, .slice B m d] w (RetVal w (.bool (xss == yss))) := (eqRowsQ A B n c m d xss yss w hx hy).mono fun _ _ h => RetQuiet.below h
theorem markRows1 (B H : Nat) (A : Option Addr) (n c : Nat) (zss : List (List Int)) (w : World) (h : OwnRows w B A n c zss) (hu : Under H w A n) (hm : lens zss ≤ 3000000000) :
    Calls Try.prog 25 #[.slice A n c, .int .i64 1] w fun e w' => e = .returned (.int .i64 (1 + (lens zss : Int))) ∧ OwnRows w' B A n c (markL 1 zss) ∧ Marked B H w w' := by
  have hh := markRows B H A n c zss 1 w h hu (by omega)
  rw [show ((1 : Nat) : Int) = 1 from rfl, show ((1 + lens zss : Nat) : Int) = 1 + (lens zss : Int) by omega] at hh
  exact hh
theorem markRows2 (B H : Nat) (A : Option Addr) (n c : Nat) (zss : List (List Int)) (a : Nat) (w : World) (h : OwnRows w B A n c zss) (hu : Under H w A n) (hm : a + lens zss ≤ 3000000000) :
    Calls Try.prog 25 #[.slice A n c, .int .i64 (1 + (a : Int))] w fun e w' => e = .returned (.int .i64 (1 + (a : Int) + (lens zss : Int))) ∧ OwnRows w' B A n c (markL (1 + a) zss) ∧ Marked B H w w' := by
  have hh := markRows B H A n c zss (1 + a) w h hu (by omega)
  rw [show ((1 + a : Nat) : Int) = 1 + (a : Int) by omega, show ((1 + a + lens zss : Nat) : Int) = 1 + (a : Int) + (lens zss : Int) by omega] at hh
  exact hh
set_option maxHeartbeats 800000 in
set_option maxRecDepth 100000 in
theorem heldRows (A : Option Addr) (n c : Nat) (zss : List (List Int)) (m : Nat) (w : World) (h : RowsAt w w.heap.size A n (markL m zss)) (hm : m + lens zss ≤ 4000000000) :
    Calls Try.prog 26 #[.slice A n c, .int .i64 (m : Int)] w fun e w' => e = .returned (.int .i64 ((m + lens zss : Nat) : Int)) ∧ w = w' := by
  have hn := rows_bound h
  have hz : zss.length = n := by rw [← h.1, markL_len]
  have hz' := hide hz
  go_enter Try.func26, Try.ntmps26
  go_wp2_with fail
  go_loopw [1, 5] (fun mm i wr => ∃ k q : Nat, k ≤ n ∧ i = .int .i64 (k : Int) ∧ mm = .int .i64 (q : Int) ∧ q = m + lens (zss.take k) ∧ w = wr) (fun _ i _ => n - (intOf i).toNat)
  case atStart => exact ⟨0, m, by omega, rfl, rfl, by simp [lens], rfl⟩
  case round =>
    obtain ⟨k, q, hk, rfl, rfl, hq, rfl⟩ := hrel
    by_cases hlt : k < n
    · obtain ⟨zs, hzk⟩ : ∃ zs, zss[k]? = some zs := ⟨_, List.getElem?_eq_getElem (by omega)⟩
      obtain ⟨b, o, xs, A1, c1, e1, hbb, hz1, hc1, hr1⟩ := at_row h hlt
      subst e1
      rw [markL_at hzk] at hz1
      have hxs : marks (m + lens (zss.take k)) zs.length = xs := Option.some.inj hz1
      rw [← hq] at hxs
      subst hxs
      have hl1 := lens_take_succ hzk
      have hl2 := lens_take_le zss (k + 1)
      have hlb : q + zs.length ≤ 4000000000 := by omega
      rw [marks_len, marks_map] at hr1
      rw [marks_len] at hc1
      replace hz1 := hide hz1
      replace hzk := hide hzk
      replace hl1 := hide hl1
      replace hq := hide hq
      clear hl2 hz
      replace h := hide h
      have hheld := hide (heldInts A1 zs.length c1 q w hr1 hlb)
      clear hr1
      go_wp2_with fail
      refine hheld.out.mono ?_
      rintro e w2 ⟨rfl, rfl⟩
      go_wp2_with fail
      go_roundw
      case rel => exact ⟨k + 1, q + zs.length, by omega, by go_num, by go_num, by rw [hl1.out, hq.out]; omega, trivial⟩
      case measure => simp [intOf]; omega
    · obtain rfl : k = n := by omega
      rw [List.take_of_length_le (by rw [hz'.out]; exact Nat.le_refl _)] at hq
      subst hq
      go_wp2_with fail
      go_ret
      exact ⟨rfl, rfl⟩
theorem heldRows1 (A : Option Addr) (n c : Nat) (zss : List (List Int)) (w : World) (h : RowsAt w w.heap.size A n (markL 1 zss)) (hm : lens zss ≤ 3000000000) :
    Calls Try.prog 26 #[.slice A n c, .int .i64 1] w fun e w' => e = .returned (.int .i64 (1 + (lens zss : Int))) ∧ w = w' := by
  have hh := heldRows A n c zss 1 w h (by omega)
  rw [show ((1 : Nat) : Int) = 1 from rfl, show ((1 + lens zss : Nat) : Int) = 1 + (lens zss : Int) by omega] at hh
  exact hh
end Go.Proofs.Ytooiobcghobefaa
