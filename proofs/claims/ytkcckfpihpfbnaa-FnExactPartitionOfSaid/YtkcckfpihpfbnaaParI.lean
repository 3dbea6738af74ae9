/-
  PartitionOf of the program.
  Conditions: as each theorem says.
-/
import Derived.Test.YtkcckfpihpfbnaaParS
import Derived.Test.YtkcckfpihpfbnaaClsI
namespace Go.Proofs.Ytkcckfpihpfbnaa
open Go.RowKit
set_option linter.unusedVariables false

/-- What PartitionOf answers. -/
def parG (m : Int) (zss : List (List Int)) (mode s : Int) : Bool := (isTabB m zss && modeB mode) && isAttrB m s
def parL (m : Int) (zss : List (List Int)) (mode s : Int) : List (List Int) := if parG m zss mode s then clsL (parS mode zss m.toNat s.toNat) zss.length zss.length else []
theorem rows_nil (w : World) : OwnRows w w.heap.size none 0 0 [] := ⟨rfl, [], World.ownsRow_nil _ _ _ _, (fun i zs hi => by simp at hi), (fun i j u v _ hu => by simp at hu)⟩
theorem rows_nilB (w : World) (B : Nat) : OwnRows w B none 0 0 [] := ⟨rfl, [], World.ownsRow_nil _ _ _ _, (fun i zs hi => by simp at hi), (fun i j u v _ hu => by simp at hu)⟩
set_option maxRecDepth 100000 in
theorem equalin (m : Nat) (A B : Option Addr) (c d : Nat) (mode s : Int) (xs ys : List Int) (w : World) (hx : Reads w w.heap.size A m (xs.map (Value.int .i64))) (hy : Reads w w.heap.size B m (ys.map (Value.int .i64))) (hm : m ≤ 5) :
    Calls Try.prog 104 #[.int .i64 mode, .slice A m c, .slice B m d, .int .i64 s] w (RetQuiet w (.bool (insB s ((agrN mode xs ys m : Nat) : Int)))) := by
  have hcall := hide (implAgree m A B c d mode xs ys w hx hy hm)
  generalize ((agrN mode xs ys m : Nat) : Int) = V at hcall
  go_enter Try.func104, Try.ntmps104
  go_wp2_with fail
  refine hcall.out.mono ?_
  rintro e w1 ⟨rfl, z, hw1⟩
  go_wp2_with (go_at_call 88; refine (inside_any _ _ _).mono ?_; rintro e w2 ⟨rfl, rfl⟩)
  go_ret
  exact ⟨rfl, z, rfl⟩
set_option maxHeartbeats 1600000 in
set_option maxRecDepth 100000 in
theorem partFn (M n c : Nat) (A : Option Addr) (zss : List (List Int)) (mode : Int) (s : Nat) (p1 p2 p3 i k : Nat) (W : World) (h : RowsAt W W.heap.size A n zss) (hM : M ≤ 5) (hl : ∀ (i : Nat) (zs : List Int), zss[i]? = some zs → zs.length = M) (hi : i < n) (hk : k < n)
    (c1 : W.cell? ⟨p1, 0, none⟩ = some (.int .i64 mode)) (c2 : W.cell? ⟨p2, 0, none⟩ = some (.int .i64 (M : Int))) (c3 : W.cell? ⟨p2, 1, none⟩ = some (.slice A n c)) (c4 : W.cell? ⟨p3, 0, none⟩ = some (.int .i64 (s : Int))) :
    Calls Try.prog 103 #[.int .i64 (i : Int), .int .i64 (k : Int), .pointer (some ⟨p1, 0, none⟩), .pointer (some ⟨p2, 0, none⟩), .pointer (some ⟨p3, 0, none⟩)] W (RetVal W (.bool (parS mode zss M s i k))) := by
  have hn := rows_bound h
  obtain ⟨b, o, xs, A1, d1, e1, hbb, hz1, hc1, hr1⟩ := at_row h hi
  obtain ⟨b', o', ys, A2, d2, e2, hbb2, hz2, hc2, hr2⟩ := at_row h hk
  subst e1
  cases e2
  have gx : zss.getD i [] = xs := by rw [List.getD_eq_getElem?_getD, hz1]; rfl
  have gy : zss.getD k [] = ys := by rw [List.getD_eq_getElem?_getD, hz2]; rfl
  have lx := hl _ _ hz1
  have ly := hl _ _ hz2
  have hcall : ∀ q, Calls Try.prog 104 #[.int .i64 mode, .slice A1 xs.length d1, .slice A2 ys.length d2, .int .i64 (s : Int)] (W.drewN q) fun e w'' => e = .returned (.bool (parS mode zss M s i k)) ∧ ∃ m, w'' = W.drewN m := fun q => by
    rw [lx] at hr1
    rw [ly] at hr2
    have := equalin M A1 A2 d1 d2 mode (s : Int) xs ys (W.drewN q) hr1 hr2 hM
    rw [← lx, show (xs.length : Nat) = ys.length by omega] at this
    rw [show xs.length = ys.length by omega]
    refine Calls.quiet_of (this.mono fun e w' hh => ?_)
    unfold parS agV
    rw [gx, gy, ← ly]
    exact hh
  generalize parS mode zss M s i k = V at hcall
  replace hcall := hide hcall
  replace h := hide h
  clear gx gy lx ly hr1 hr2 hz1 hz2 hl
  go_enter Try.func103, Try.ntmps103
  go_wp2_with fail
  go_quiet ((go_at_call 104; exact hcall.out _))
  go_wp2_with fail
  go_ret
  exact ⟨rfl, below_drewN (Below.refl _ _) _⟩
set_option maxHeartbeats 3200000 in
set_option maxRecDepth 100000 in
theorem implPar (m : Int) (A : Option Addr) (n c : Nat) (zss : List (List Int)) (mode s : Int) (w : World) (h : RowsAt w w.heap.size A n zss) :
    Calls Try.prog 50 #[.agg #[.int .i64 m, .slice A n c], .int .i64 mode, .int .i64 s] w (RetRows w (parL m zss mode s)) := by
  have hn := rows_bound h
  have start : ∀ (Q : Prop), (∀ wb : World, Below w.heap.size w wb → w.heap.size + 2 < wb.heap.size → wb.cell? ⟨w.heap.size, 0, none⟩ = some (.int .i64 m) → wb.cell? ⟨w.heap.size, 1, none⟩ = some (.slice A n c) → wb.cell? ⟨w.heap.size + 1, 0, none⟩ = some (.int .i64 mode) → wb.cell? ⟨w.heap.size + 2, 0, none⟩ = some (.int .i64 s) → wb = ((w.alloc (.cells #[.int .i64 m, .slice A n c] 26)).alloc (.cells #[.int .i64 mode] 3)).alloc (.cells #[.int .i64 s] 3) → Q) → Q := by
    intro Q hQ
    refine hQ _ ?_ ?_ ?_ ?_ ?_ ?_ rfl
    · go_grown
    · simp
    · rw [World.cell?_alloc_lt _ _ _ (by simp; omega), World.cell?_alloc_lt _ _ _ (by simp), World.cell?_alloc_at _ _ _ _ rfl]; rfl
    · rw [World.cell?_alloc_lt _ _ _ (by simp; omega), World.cell?_alloc_lt _ _ _ (by simp), World.cell?_alloc_at _ _ _ _ rfl]; rfl
    · rw [World.cell?_alloc_lt _ _ _ (by simp), World.cell?_alloc_at _ _ _ _ (by simp)]; rfl
    · rw [World.cell?_alloc_at _ _ _ _ (by simp)]; rfl
  replace start := hide start
  rcases hT : isTabB m zss with _ | _
  · have e := hide (show parL m zss mode s = [] by unfold parL parG; rw [hT]; rfl)
    replace hT := hide hT
    go_enter Try.func50, Try.ntmps50
    go_wp2_with fail
    refine start.out _ fun wb hb hs k0 k1 m0 s0 hwb => ?_
    have h' := h.later hb
    rw [← hwb]
    clear hwb h
    refine (implIsTab _ _ _ _ _ _ h').mono ?_
    rintro e' w1 ⟨rfl, hb1⟩
    rw [hT.out]
    go_wp2_with fail
    go_ret
    exact ⟨none, 0, 0, rfl, by rw [e.out]; exact rows_nilB _ _, below_call hb hb1⟩
  rcases hM : modeB mode with _ | _
  · have e := hide (show parL m zss mode s = [] by unfold parL parG; rw [hT, hM]; rfl)
    replace hT := hide hT
    replace hM := hide hM
    go_enter Try.func50, Try.ntmps50
    go_wp2_with fail
    refine start.out _ fun wb hb hs k0 k1 m0 s0 hwb => ?_
    have h' := h.later hb
    rw [← hwb]
    clear hwb h
    refine (implIsTab _ _ _ _ _ _ h').mono ?_
    rintro e' w1 ⟨rfl, hb1⟩
    rw [hT.out]
    replace m0 := cell_below hb1 m0 (by omega)
    go_wp2_with (go_at_call 75; refine (ismode _ _).mono ?_; rintro e2 w2 ⟨rfl, rfl⟩; rw [hM.out])
    go_ret
    exact ⟨none, 0, 0, rfl, by rw [e.out]; exact rows_nilB _ _, below_call hb hb1⟩
  rcases hA : isAttrB m s with _ | _
  · have e := hide (show parL m zss mode s = [] by unfold parL parG; rw [hT, hM, hA]; rfl)
    replace hT := hide hT
    replace hM := hide hM
    replace hA := hide hA
    go_enter Try.func50, Try.ntmps50
    go_wp2_with fail
    refine start.out _ fun wb hb hs k0 k1 m0 s0 hwb => ?_
    have h' := h.later hb
    rw [← hwb]
    clear hwb h
    refine (implIsTab _ _ _ _ _ _ h').mono ?_
    rintro e' w1 ⟨rfl, hb1⟩
    rw [hT.out]
    replace k0 := cell_below hb1 k0 (by omega)
    replace m0 := cell_below hb1 m0 (by omega)
    replace s0 := cell_below hb1 s0 (by omega)
    go_wp2_with (first
      | (go_at_call 75; refine (ismode _ _).mono ?_; rintro e2 w2 ⟨rfl, rfl⟩; rw [hM.out])
      | (go_at_call 65; refine (implAttr _ _ _).mono ?_; rintro e2 w2 ⟨rfl, rfl⟩; rw [hA.out]))
    go_ret
    exact ⟨none, 0, 0, rfl, by rw [e.out]; exact rows_nilB _ _, below_call hb hb1⟩
  obtain ⟨m1, m5, m40, hlen⟩ := isTabB_m hT
  have hs32 := isAttrB_le _ _ hA
  obtain ⟨M, rfl⟩ : ∃ M : Nat, m = M := ⟨m.toNat, by omega⟩
  obtain ⟨t, rfl⟩ : ∃ t : Nat, s = t := ⟨s.toNat, by omega⟩
  have e := hide (show parL M zss mode t = clsL (parS mode zss M t) n n by unfold parL parG; rw [hT, hM, hA, h.1]; rfl)
  have hP := parS_per mode zss M t n (by omega) (by omega)
  have hl : ∀ (i : Nat) (zs : List Int), zss[i]? = some zs → zs.length = M := fun i zs hz => by have := hlen i zs hz; omega
  have n40 : n ≤ 40 := by have := h.1; omega
  have hM5 : M ≤ 5 := by omega
  replace hT := hide hT
  replace hM := hide hM
  replace hA := hide hA
  replace hP := hide hP
  replace hl := hide hl
  clear hlen
  go_enter Try.func50, Try.ntmps50
  go_wp2_with fail
  refine start.out _ fun wb hb hs k0 k1 m0 s0 hwb => ?_
  have h' := h.later hb
  rw [← hwb]
  clear hwb h
  refine (implIsTab _ _ _ _ _ _ h').mono ?_
  rintro e' w1 ⟨rfl, hb1⟩
  rw [hT.out]
  replace k0 := cell_below hb1 k0 (by omega)
  replace k1 := cell_below hb1 k1 (by omega)
  replace m0 := cell_below hb1 m0 (by omega)
  replace s0 := cell_below hb1 s0 (by omega)
  have h1 := h'.later hb1
  have hs1 : w.heap.size + 2 < w1.heap.size := Nat.lt_of_lt_of_le hs hb1.size
  replace hb := below_call hb hb1
  have hsame : ∀ (W : World) (i k : Nat), Below w1.heap.size w1 W → i < k → k < n → Calls Try.prog 103 #[.int .i64 (i : Int), .int .i64 (k : Int), .pointer (some ⟨w.heap.size + 1, 0, none⟩), .pointer (some ⟨w.heap.size, 0, none⟩), .pointer (some ⟨w.heap.size + 2, 0, none⟩)] W (RetVal W (.bool (parS mode zss M t i k))) := by
    intro W i k hW hik hk
    exact partFn M n c A zss mode t (w.heap.size + 1) w.heap.size (w.heap.size + 2) i k W (h1.later hW) hM5 hl.out (by omega) hk (cell_below hW m0 (by omega)) (cell_below hW k0 (by omega)) (cell_below hW k1 (by omega)) (cell_below hW s0 (by omega))
  replace hsame := hide hsame
  clear hb1 h'
  go_wp2_with (first
    | (go_at_call 75; refine (ismode _ _).mono ?_; rintro e2 w2 ⟨rfl, rfl⟩; rw [hM.out])
    | (go_at_call 65; refine (implAttr _ _ _).mono ?_; rintro e2 w2 ⟨rfl, rfl⟩; rw [hA.out]))
  refine (classesOf_part n n40 (parS mode zss M t) hP.out _ _ _ w1 hsame.out).mono ?_
  rintro e3 w3 ⟨A3, n3, c3, rfl, ho3, hb3⟩
  go_wp2_with fail
  go_ret
  exact ⟨A3, n3, c3, rfl, by rw [e.out]; exact ho3.more hb.size, below_call hb hb3⟩
end Go.Proofs.Ytkcckfpihpfbnaa
