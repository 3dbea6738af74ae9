/-
  Walk of the reference's l3Once: the different rows of a list in order.
  Conditions: as each theorem says.
-/
import Derived.Test.YtooiobcghobefaaGreatDoorMrgS
import Derived.Test.YtooiobcghobefaaGreatDoorRowsU
import Derived.Test.YtooiobcghobefaaGreatDoorTab
import Derived.Lib.SliceRun
import Derived.Deep.Cut
namespace Go.Proofs.YtooiobcghobefaaGreatDoor
open Go.RowKit
set_option linter.unusedVariables false

/-- A list of rows in memory; a row without a place has no room. -/
def RowsW (w : World) (A : Option Addr) (n : Nat) (zss : List (List Int)) : Prop :=
  zss.length = n ∧ ∃ vs : List Value, Reads w w.heap.size A n vs ∧ ∀ (i : Nat) (zs : List Int), zss[i]? = some zs → ∃ (A' : Option Addr) (c' : Nat), vs[i]? = some (Value.slice A' zs.length c') ∧ Reads w w.heap.size A' zs.length (zs.map (Value.int .i64)) ∧ (A' = none → c' = 0)
theorem RowsW.later {w w' : World} {A : Option Addr} {n : Nat} {zss : List (List Int)} (h : RowsW w A n zss) (hb : Below w.heap.size w w') : RowsW w' A n zss := by
  obtain ⟨h1, vs, h2, h3⟩ := h
  refine ⟨h1, vs, (h2.below hb).more hb.size, fun i zs hi => ?_⟩
  obtain ⟨A', c', h4, h5, h6⟩ := h3 i zs hi
  exact ⟨A', c', h4, (h5.below hb).more hb.size, h6⟩
theorem RowsW.of_u {w : World} {B H n c : Nat} {A : Option Addr} {zss : List (List Int)} (h : RowsU w B H A n c zss) : RowsW w A n zss := by
  obtain ⟨h1, vs, h2, h3, _⟩ := h
  refine ⟨h1, vs, Reads.of_own h2, fun i zs hi => ?_⟩
  obtain ⟨A', c', h4, h5, _⟩ := h3 i zs hi
  refine ⟨A', c', h4, Reads.of_own h5, fun e => ?_⟩
  rcases h5.2 with ⟨hv, _⟩ | ⟨g, cap, cur, hv, _⟩
  · injection hv with _ _ e3
  · injection hv with e1
    rw [e] at e1; cases e1
theorem RowsW.sub {w : World} {b o n k m : Nat} {zss : List (List Int)} (h : RowsW w (some ⟨b, o, none⟩) n zss) (hm : k + m ≤ n) : RowsW w (some ⟨b, o + k, none⟩) m ((zss.drop k).take m) := by
  obtain ⟨h1, vs, ⟨h2, h2b, h2c⟩, h3⟩ := h
  refine ⟨by rw [List.length_take, List.length_drop]; omega, (vs.drop k).take m, ⟨by rw [List.length_take, List.length_drop]; omega, by omega, fun h0 => ?_⟩, fun i zs hi => ?_⟩
  · obtain ⟨b', o', e, hb, hc⟩ := h2c (by omega)
    cases e
    refine ⟨b, o + k, rfl, hb, fun j u hj => ?_⟩
    have hl := (List.getElem?_eq_some_iff.1 hj).1
    rw [List.length_take] at hl
    rw [List.getElem?_take, if_pos (by omega), List.getElem?_drop] at hj
    have := hc _ u hj
    rwa [show o + (k + j) = o + k + j by omega] at this
  · have hl := (List.getElem?_eq_some_iff.1 hi).1
    rw [List.length_take] at hl
    rw [List.getElem?_take, if_pos (by omega), List.getElem?_drop] at hi
    obtain ⟨A', c', h4, h5, h6⟩ := h3 _ zs hi
    exact ⟨A', c', by rw [List.getElem?_take, if_pos (by omega), List.getElem?_drop]; exact h4, h5, h6⟩
theorem addN (b o k : Nat) : (⟨b, o, none⟩ : Addr).add k = ⟨b, o + k, none⟩ := by unfold Addr.add; split <;> simp_all
theorem onceL_one (z : List Int) : onceL [z] = [z] := rfl
set_option maxRecDepth 100000 in
theorem l3once0 (G : Nat) (A : Option Addr) (c : Nat) (w : World) (hG : G < w.heap.size) : Calls Tryz.prog 46 #[.slice A 0 c] w (RetRd G w (onceL [])) := by
  have hst := own_start w 37
  have hal : Below w.heap.size w (w.alloc (.cells #[] 37)) := (Below.refl _ _).alloc (Nat.le_refl _) _
  go_enter Tryz.func46, Tryz.ntmps46
  go_wp2_with fail
  go_ret
  exact ⟨_, 0, 0, rfl, ⟨rfl, [], Reads.of_own hst, fun i zs h => by simp [onceL] at h⟩, hal, avO_own hst hG, fun b o k Ax lx cx _ hk => absurd hk (by omega)⟩
set_option maxHeartbeats 1600000 in
set_option maxRecDepth 100000 in
theorem l3once1 (G : Nat) (A : Option Addr) (c : Nat) (zs : List Int) (w : World) (h : RowsW w A 1 [zs]) (hz : zs.length ≤ 1000000) (hG : G < w.heap.size) : Calls Tryz.prog 46 #[.slice A 1 c] w (RetRd G w (onceL [zs])) := by
  obtain ⟨_, vs, h2, h3⟩ := h
  obtain ⟨Ax, cx, hv, hr, hA⟩ := h3 0 zs rfl
  obtain ⟨b, o, u, rfl, hb, hu, hc⟩ := h2.at_ (k := 0) (by omega)
  rw [hv] at hu
  cases hu
  rw [Nat.add_zero] at hc
  have hst := own_start w 37
  have hb1 : Below w.heap.size w (w.alloc (.cells #[] 37)) := (Below.refl _ _).alloc (Nat.le_refl _) _
  have hst2 : ((w.alloc (.cells #[] 37)).alloc (.cells #[] 3)).ownsRow (w.heap.size + 1) 3 1 (.slice (some ⟨w.heap.size + 1, 0, none⟩) 0 0) 0 [] := by
    have := own_start (w.alloc (.cells #[] 37)) 3
    rwa [World.size_alloc] at this
  have hb2 : Below (w.alloc (.cells #[] 37)).heap.size (w.alloc (.cells #[] 37)) ((w.alloc (.cells #[] 37)).alloc (.cells #[] 3)) := (Below.refl _ _).alloc (Nat.le_refl _) _
  have hbw := below_call hb1 hb2
  have hst' := own_below hst hb2
  have hsz2 : ((w.alloc (.cells #[] 37)).alloc (.cells #[] 3)).heap.size = w.heap.size + 1 + 1 := by rw [World.size_alloc, World.size_alloc]
  obtain ⟨w2, hw2⟩ : ∃ X, X = (w.alloc (.cells #[] 37)).alloc (.cells #[] 3) := ⟨_, rfl⟩
  rw [← hw2] at hbw hst2 hst' hsz2
  have hc2 : w2.cell? ⟨b, o, none⟩ = some (.slice Ax zs.length cx) := (hbw.cell (p := ⟨b, o, none⟩) hb).trans hc
  have hr2 := (hr.below hbw).more hbw.size
  have hone : ∀ u ∈ zs.map (Value.int .i64), u.oneCell' = true := fun u hu => by
    obtain ⟨x, _, rfl⟩ := List.mem_map.1 hu; rfl
  obtain ⟨lx, hlx⟩ : ∃ lx, lx = zs.length := ⟨_, rfl⟩
  rw [← hlx] at hc hc2 hr2 hz hv hr
  replace hlx := hide hlx
  replace hw2 := hide hw2
  replace hone := hide hone
  replace hst' := hide hst'
  replace hbw := hide hbw
  clear hst hb1 hb2 h2 h3 hv hr
  go_enter Tryz.func46, Tryz.ntmps46
  go_upto_region 3 with fail
  go_wp2_with (first
    | (at_builtin; refine wpList_spreadS elemInt rfl (.tmp 9) (.tmp 12) _ Ax lx cx (zs.map (Value.int .i64)) (by rw [← hw2.out]; exact hr2) hA rfl (w.heap.size + 1) (.slice (some ⟨w.heap.size + 1, 0, none⟩) 0 0) 0 [] rfl rfl (by rw [← hw2.out]; exact hst2) hone.out (by omega) (by rw [← hw2.out]; omega) ?_; rw [← hw2.out]; intro A5 c5 w5 hown5 hg5; rw [Nat.zero_add] at hown5; rw [Nat.zero_add, List.nil_append] at *; have hst5 := hide ((hst'.out).kept hg5 (own_types hst'.out (own_more hst2 (Nat.le_succ _)) (by decide))); have hbw5 := hide (hbw.out.grown hg5 (by omega) (fun k hk => by cases hk; show w.heap.size ≤ w.heap.size + 1; omega)); replace hown5 := hide hown5)
    | (at_builtin; refine wpList_push elemS rfl (.tmp 8) (.tmp 14) w5 (.slice A5 lx c5) rfl w.heap.size (.slice (some ⟨w.heap.size, 0, none⟩) 0 0) 0 [] rfl rfl hst5.out rfl (by omega) hbw5.out.size ?_; intro A6 c6 w6 hown6 hg6 hat6; have hb6 := below_push hbw5.out hbw5.out.size hst5.out hg6; have hrow6 := (hown5.out).kept hg6 (own_types (own_more hown5.out (Nat.le_succ _)) hst5.out (by decide))))
  go_ret
  refine ⟨A6, 1, c6, rfl, ⟨rfl, [.slice A5 lx c5], Reads.of_own hown6, fun i ys hi => ?_⟩, hb6, avO_own hown6 hG, fun b' o' k Ay ly cy e hk hcy b2 o2 e2 => ?_⟩
  rotate_left
  · obtain ⟨b3, o3, u3, e3, hb3, hu3, hc3⟩ := (Reads.of_own hown6).at_ hk
    rw [e] at e3
    cases e3
    rw [hcy] at hc3
    cases hc3
    obtain rfl : k = 0 := by omega
    have hq : Value.slice Ay ly cy = .slice A5 lx c5 := by simpa using hu3.symm
    injection hq with q1
    subst q1
    exact avO_own hrow6 (Nat.lt_succ_of_lt hG) b2 o2 e2
  have hi0 := (List.getElem?_eq_some_iff.1 hi).1
  rw [onceL_one] at hi hi0
  obtain rfl : i = 0 := by simpa using hi0
  obtain rfl : zs = ys := by simpa using hi
  exact ⟨A5, c5, by rw [← hlx.out]; rfl, by rw [← hlx.out]; exact Reads.of_own hrow6⟩
set_option maxHeartbeats 1600000 in
set_option maxRecDepth 100000 in
theorem l3once2 (G b o n c : Nat) (zss : List (List Int)) (w : World) (h : RowsW w (some ⟨b, o, none⟩) n zss) (h2 : 2 ≤ n) (hc : n ≤ c) (hn : n ≤ 1000000)
    (hG : G < w.heap.size) (ih : ∀ (A : Option Addr) (m d : Nat) (yss : List (List Int)) (w' : World), G < w'.heap.size → RowsW w' A m yss → m < n → m ≤ d → (∀ ys ∈ yss, ys ∈ zss) → Calls Tryz.prog 46 #[.slice A m d] w' (RetRd G w' (onceL yss))) :
    Calls Tryz.prog 46 #[.slice (some ⟨b, o, none⟩) n c] w (RetRd G w (onceL zss)) := by
  have hal : Below w.heap.size w (w.alloc (.cells #[] 37)) := (Below.refl _ _).alloc (Nat.le_refl _) _
  have lz := h.1
  obtain ⟨k, hk⟩ : ∃ k, k = n / 2 := ⟨_, rfl⟩
  have k1 : 1 ≤ k := by omega
  have k2 : k < n := by omega
  have hk' : ((n : Int) / 2) = (k : Int) := by omega
  have hkw : IntKind.i64.wrap (k : Int) = (k : Int) := IntWalk.i64_in _ (by omega)
  have hel : (Tryz.prog).elem 24 = 37 := by kernel_rfl
  have hsl : ∀ X : World, (Instr.slice 24 (.slice (some ⟨b, o, none⟩) n c) (some (.int .i64 (k : Int))) none none).run Tryz.prog X = .ok (.slice (some ⟨b, o + k, none⟩) (n - k) (c - k)) X := fun X => by
    rw [run_slice_l (w := X) 24 (some ⟨b, o, none⟩) n c (by rw [hel]; exact Tryz.underlying24) .i64 (k : Int) (by omega) (by omega), hel, Tryz.sizeOf37, Int.toNat_natCast]
    show Result.ok (Value.slice (if c = k then _ else _) (n - k) (c - k)) X = _
    rw [if_neg (by omega)]
    show Result.ok (Value.slice (some ((⟨b, o, none⟩ : Addr).add (k * 1))) (n - k) (c - k)) X = _
    rw [Nat.mul_one, addN]
  have hsh : ∀ X : World, (Instr.slice 24 (.slice (some ⟨b, o, none⟩) n c) none (some (.int .i64 (k : Int))) none).run Tryz.prog X = .ok (.slice (some ⟨b, o, none⟩) k c) X := fun X => by
    rw [run_slice_h (w := X) 24 (some ⟨b, o, none⟩) n c (by rw [hel]; exact Tryz.underlying24) .i64 (k : Int) (by omega) (by omega), hel, Tryz.sizeOf37, Int.toNat_natCast]
    show Result.ok (Value.slice (if c = 0 then _ else _) (k - 0) (c - 0)) X = _
    rw [if_neg (by omega), Nat.sub_zero, Nat.sub_zero]
    show Result.ok (Value.slice (some ((⟨b, o, none⟩ : Addr).add (0 * 1))) k c) X = _
    rw [Nat.zero_mul, addN]; rfl
  have hL := hide (fun (X : World) (hX : Below w.heap.size w X) => ih (some ⟨b, o, none⟩) k c ((zss.drop 0).take k) X (Nat.lt_of_lt_of_le hG hX.size) (show RowsW X (some ⟨b, o + 0, none⟩) k _ from (h.later hX).sub (by omega)) k2 (by omega) (fun ys hy => List.mem_of_mem_take (by simpa using hy)))
  have hH := hide (fun (X : World) (hX : Below w.heap.size w X) => ih (some ⟨b, o + k, none⟩) (n - k) (c - k) ((zss.drop k).take (n - k)) X (Nat.lt_of_lt_of_le hG hX.size) ((h.later hX).sub (by omega)) (by omega) (by omega) (fun ys hy => List.mem_of_mem_drop (List.mem_of_mem_take hy)))
  have hfin := hide (show onceL (onceL ((zss.drop 0).take k) ++ onceL ((zss.drop k).take (n - k))) = onceL zss by
    rw [onceL_app, List.drop_zero, List.take_of_length_le (l := zss.drop k) (by rw [List.length_drop]; omega), List.take_append_drop])
  have hlL := onceL_len ((zss.drop 0).take k)
  have hlH := onceL_len ((zss.drop k).take (n - k))
  rw [List.length_take] at hlL hlH
  have hsL := hide (onceL_ss ((zss.drop 0).take k))
  have hsH := hide (onceL_ss ((zss.drop k).take (n - k)))
  generalize onceL ((zss.drop 0).take k) = zL at *
  generalize onceL ((zss.drop k).take (n - k)) = zH at *
  have d1 : ((n : Int) == 1) = false := by simp; omega
  have d1' : (n == 1) = false := by simp; omega
  have d0 : ((n : Int) == 0) = false := by simp; omega
  have d0' : (n == 0) = false := by simp; omega
  obtain ⟨w1, hw1⟩ : ∃ X, X = w.alloc (.cells #[] 37) := ⟨_, rfl⟩
  rw [← hw1] at hal
  replace hw1 := hide hw1
  clear ih h
  replace hk := hide hk
  replace hlL := hide hlL
  replace hlH := hide hlH
  have hbL0 := hide hal
  go_enter Tryz.func46, Tryz.ntmps46
  go_wp2_with fail
  rw [← hw1.out]
  go_region_law (first
    | (go_simp; go_at_call_of 46 (Value.slice (some ⟨b, o, none⟩) k c); refine (hL.out _ (by first | exact hal | exact hal.drew | exact hbHx.out | exact hbHx.out.drew)).mono ?_; rintro e w2 ⟨AL, nL, cL, rfl, hrL, hbL, hoL, hiL⟩; have hbLx := hide (show Below w.heap.size w w2 from by first | exact hal.trans (hbL.mono hal.size) | exact hal.drew.trans (hbL.mono hal.size) | exact hbHx.out.trans (hbL.mono hbHx.out.size) | exact hbHx.out.drew.trans (hbL.mono hbHx.out.size)))
    | (go_simp; go_at_call_of 46 (Value.slice (some ⟨b, o + k, none⟩) (n - k) (c - k)); refine (hH.out _ (by first | exact hal | exact hal.drew | exact hbLx.out | exact hbLx.out.drew)).mono ?_; rintro e w3 ⟨AH, nH, cH, rfl, hrH, hbH, hoH, hiH⟩; have hbHx := hide (show Below w.heap.size w w3 from by first | exact hal.trans (hbH.mono hal.size) | exact hal.drew.trans (hbH.mono hal.size) | exact hbLx.out.trans (hbH.mono hbLx.out.size) | exact hbLx.out.drew.trans (hbH.mono hbLx.out.size)))
    | (go_simp; go_at_call 64; refine (l3merge G AL AH nL cL nH cH zL zH _ (by first | exact hrL | exact RowsAt.later (by exact hrL) hbH) (by first | exact hrH | exact RowsAt.later (by exact hrH) hbL) hsL.out hsH.out (by have := hrL.1; have := hlL.out; omega) (by have := hrH.1; have := hlH.out; omega) (by first | exact Nat.lt_of_lt_of_le hG hbLx.out.size | exact Nat.lt_of_lt_of_le hG hbHx.out.size) (by first | exact hiL | exact AvI.later (by exact hiL) (by exact hrL) hbH) (by first | exact hiH | exact AvI.later (by exact hiH) (by exact hrH) hbL)).mono ?_; rintro e w4 ⟨AM, nM, cM, rfl, hrM, hbM, hoM, hiM⟩))
  all_goals
    go_wp2_with fail
    go_ret
    exact ⟨AM, nM, cM, rfl, by rw [← hfin.out]; exact hrM, by first | exact hbLx.out.trans (hbM.mono hbLx.out.size) | exact hbLx.out.drew.trans (hbM.mono hbLx.out.size) | exact hbHx.out.trans (hbM.mono hbHx.out.size) | exact hbHx.out.drew.trans (hbM.mono hbHx.out.size), hoM, hiM⟩
theorem l3once (G : Nat) : ∀ (f : Nat) (A : Option Addr) (n c : Nat) (zss : List (List Int)) (w : World), n ≤ f → G < w.heap.size → RowsW w A n zss → n ≤ c → n ≤ 1000000 → (∀ zs ∈ zss, zs.length ≤ 1000000) → Calls Tryz.prog 46 #[.slice A n c] w (RetRd G w (onceL zss)) := by
  intro f
  induction f with
  | zero =>
    intro A n c zss w hf hG h hc hn hz
    obtain rfl : n = 0 := by omega
    obtain rfl : zss = [] := List.length_eq_zero_iff.1 h.1
    exact l3once0 G A c w hG
  | succ f ih =>
    intro A n c zss w hf hG h hc hn hz
    rcases Nat.lt_or_ge n 2 with h2 | h2
    · rcases Nat.eq_zero_or_pos n with h0 | h0
      · subst h0
        obtain rfl : zss = [] := List.length_eq_zero_iff.1 h.1
        exact l3once0 G A c w hG
      · obtain rfl : n = 1 := by omega
        obtain ⟨zs, rfl⟩ := List.length_eq_one_iff.1 h.1
        exact l3once1 G A c zs w h (hz zs (by simp)) hG
    · obtain ⟨b, o, e, _⟩ := h.2.choose_spec.1.2.2 (by omega)
      subst e
      exact l3once2 G b o n c zss w h h2 hc hn hG fun A m d yss w' hG' h' hm hd hs => ih A m d yss w' (by omega) hG' h' hd (by omega) fun ys hy => hz ys (hs ys hy)
end Go.Proofs.YtooiobcghobefaaGreatDoor
