/-
  The reference's AgreeSets: the sets in which two rows agree, in ascending order, each once.
  Conditions: as each theorem says.
-/
import Derived.Test.YtkcckfpihpfbnaaPut
import Derived.Test.YtkcckfpihpfbnaaDistP
import Derived.Test.YtkcckfpihpfbnaaIsTab2
import Derived.Test.YtkcckfpihpfbnaaAgree2
import Derived.Test.YtkcckfpihpfbnaaCol
namespace Go.Proofs.Ytkcckfpihpfbnaa
open Go.RowKit
set_option linter.unusedVariables false

def agV (mode : Int) (zss : List (List Int)) (m a b : Nat) : Int := ((agrN mode (zss.getD a []) (zss.getD b []) m : Nat) : Int)
theorem eqCB_symm (mode a b : Int) : eqCB mode a b = eqCB mode b a := by
  unfold eqCB
  rw [show (b == a) = (a == b) from BEq.comm]
  by_cases h : a = b
  · subst h; rfl
  · have h' : (a == b) = false := by simpa using h
    rw [h']
    simp
theorem agrN_symm (mode : Int) (xs ys : List Int) : ∀ m, agrN mode xs ys m = agrN mode ys xs m
  | 0 => rfl
  | m + 1 => by rw [agrN, agrN, agrN_symm mode xs ys m, eqCB_symm]
theorem agV_symm (mode : Int) (zss : List (List Int)) (m a b : Nat) : agV mode zss m a b = agV mode zss m b a := by unfold agV; rw [agrN_symm]
/-- The program's list of all pairs before row i, and those of row i before row q. -/
def agP (V : Nat → Nat → Int) (i q : Nat) : List Int := (List.range i).flatMap (fun a => (List.range a).map (V a)) ++ (List.range q).map (V i)
theorem agP_succ (V : Nat → Nat → Int) (i q : Nat) : agP V i (q + 1) = agP V i q ++ [V i q] := by unfold agP; rw [List.range_succ, List.map_append, ← List.append_assoc]; rfl
theorem agP_next (V : Nat → Nat → Int) (i : Nat) : agP V (i + 1) 0 = agP V i i := by unfold agP; rw [List.range_succ (n := i), List.flatMap_append]; simp
theorem agP_mem (V : Nat → Nat → Int) (n : Nat) (z : Int) : z ∈ agP V n 0 ↔ ∃ a b, b < a ∧ a < n ∧ z = V a b := by
  unfold agP
  simp only [List.range_zero, List.map_nil, List.append_nil, List.mem_flatMap, List.mem_range, List.mem_map]
  constructor
  · rintro ⟨a, h1, b, h2, rfl⟩; exact ⟨a, b, h2, h1, rfl⟩
  · rintro ⟨a, b, h2, h1, rfl⟩; exact ⟨a, h1, b, h2, rfl⟩
def agsG (m : Int) (zss : List (List Int)) (mode : Int) : Bool := isTabB m zss && modeB mode
/-- What AgreeSets answers. -/
def agsL (m : Int) (zss : List (List Int)) (mode : Int) : List Int := if agsG m zss mode then distL (agP (agV mode zss m.toNat) zss.length 0) else []
def AgInv (V : Nat → Nat → Int) (n i k : Nat) (ys : List Int) : Prop := SS ys ∧ ∀ z, z ∈ ys ↔ ∃ a b, a < b ∧ b < n ∧ (a < i ∨ (a = i ∧ b < k)) ∧ z = V a b
theorem AgInv.zero (V : Nat → Nat → Int) (n : Nat) : AgInv V n 0 0 [] := ⟨List.Pairwise.nil, fun z => ⟨(fun h => by cases h), (fun ⟨a, b, _, _, h, _⟩ => by omega)⟩⟩
theorem AgInv.start {V : Nat → Nat → Int} {n i k : Nat} {ys : List Int} (h : AgInv V n i k ys) (hk : n ≤ k) : AgInv V n (i + 1) 0 ys := by
  refine ⟨h.1, fun z => (h.2 z).trans ⟨?_, ?_⟩⟩
  · rintro ⟨a, b, h1, h2, h3, h4⟩; exact ⟨a, b, h1, h2, by omega, h4⟩
  · rintro ⟨a, b, h1, h2, h3, h4⟩; exact ⟨a, b, h1, h2, by omega, h4⟩
theorem AgInv.first {V : Nat → Nat → Int} {n i : Nat} {ys : List Int} (h : AgInv V n i 0 ys) : AgInv V n i (i + 1) ys := by
  refine ⟨h.1, fun z => (h.2 z).trans ⟨?_, ?_⟩⟩
  · rintro ⟨a, b, h1, h2, h3, h4⟩; exact ⟨a, b, h1, h2, by omega, h4⟩
  · rintro ⟨a, b, h1, h2, h3, h4⟩; exact ⟨a, b, h1, h2, by omega, h4⟩
theorem AgInv.put {V : Nat → Nat → Int} {n i k : Nat} {ys ys' : List Int} (h : AgInv V n i k ys) (hik : i < k) (hk : k < n) (hp : PutP ys (V i k) ys') : AgInv V n i (k + 1) ys' := by
  obtain ⟨h1, h2⟩ := hp.1 h.1
  refine ⟨h1, fun z => (h2 z).trans ?_⟩
  rw [h.2 z]
  constructor
  · rintro (⟨a, b, g1, g2, g3, g4⟩ | rfl)
    · exact ⟨a, b, g1, g2, by omega, g4⟩
    · exact ⟨i, k, hik, hk, by omega, rfl⟩
  · rintro ⟨a, b, g1, g2, g3, g4⟩
    by_cases hh : a = i ∧ b = k
    · obtain ⟨rfl, rfl⟩ := hh; exact .inr g4
    · exact .inl ⟨a, b, g1, g2, by omega, g4⟩
theorem AgInv.done {m : Nat} {zss : List (List Int)} {mode : Int} {ys : List Int} (h : AgInv (agV mode zss m) zss.length zss.length 0 ys) (hG : agsG m zss mode = true) : ys = agsL m zss mode := by
  unfold agsL
  rw [if_pos hG]
  obtain ⟨d1, d2⟩ := distL_ok (agP (agV mode zss m) zss.length 0)
  refine SS.uniq h.1 d1 fun z => (h.2 z).trans ((d2 z).trans ?_).symm
  rw [agP_mem]
  constructor
  · rintro ⟨a, b, h1, h2, rfl⟩; exact ⟨b, a, h1, h2, by omega, agV_symm _ _ _ _ _⟩
  · rintro ⟨a, b, h1, h2, _, rfl⟩; exact ⟨b, a, h1, h2, agV_symm _ _ _ _ _⟩
theorem ss_len : ∀ {xs : List Int} {lo hi : Int}, SS xs → (∀ z ∈ xs, lo ≤ z ∧ z < hi) → xs.length ≤ (hi - lo).toNat
  | [], _, _, _, _ => by simp
  | x :: xs, lo, hi, h, hb => by
    have p := List.pairwise_cons.1 h
    have h1 := hb x (by simp)
    have := ss_len (lo := x + 1) (hi := hi) p.2 fun z hz => ⟨by have := p.1 z hz; omega, (hb z (by simp [hz])).2⟩
    rw [List.length_cons]
    omega
theorem agV_low {mode : Int} {zss : List (List Int)} {m : Nat} (hm : m ≤ 5) (a b : Nat) : 0 ≤ agV mode zss m a b ∧ agV mode zss m a b < 32 := by
  unfold agV
  have := agrN_lt mode (zss.getD a []) (zss.getD b []) m
  have h2 : (2 : Nat) ^ m ≤ 2 ^ 5 := Nat.pow_le_pow_right (by omega) hm
  omega
theorem agsL_low {m : Int} {zss : List (List Int)} {mode : Int} : SS (agsL m zss mode) ∧ ∀ z ∈ agsL m zss mode, 0 ≤ z ∧ z < 32 := by
  unfold agsL
  split
  · rename_i hG
    unfold agsG at hG
    rw [Bool.and_eq_true] at hG
    have h5 := (isTabB_m hG.1).2.1
    obtain ⟨d1, d2⟩ := distL_ok (agP (agV mode zss m.toNat) zss.length 0)
    refine ⟨d1, fun z hz => ?_⟩
    obtain ⟨a, b, _, _, rfl⟩ := (agP_mem _ _ _).1 ((d2 z).1 hz)
    exact agV_low (by omega) a b
  · exact ⟨List.Pairwise.nil, (fun z hz => by cases hz)⟩
theorem agsL_len (m : Int) (zss : List (List Int)) (mode : Int) : (agsL m zss mode).length ≤ 32 := by
  have h := agsL_low (m := m) (zss := zss) (mode := mode)
  exact ss_len (lo := 0) (hi := 32) h.1 h.2
theorem AgInv.len {mode : Int} {zss : List (List Int)} {m n i k : Nat} {ys : List Int} (h : AgInv (agV mode zss m) n i k ys) (hm : m ≤ 5) : ys.length ≤ 32 := by
  refine ss_len (lo := 0) (hi := 32) h.1 fun z hz => ?_
  obtain ⟨a, b, _, _, _, rfl⟩ := (h.2 z).1 hz
  exact agV_low hm a b
set_option maxHeartbeats 1600000 in
set_option maxRecDepth 100000 in
theorem specAgS_no (m : Int) (A : Option Addr) (n c : Nat) (zss : List (List Int)) (mode : Int) (w : World) (h : RowsAt w w.heap.size A n zss) (hG : agsG m zss mode = false) :
    Calls Try.prog 20 #[.agg #[.int .i64 m, .slice A n c], .int .i64 mode] w (RetRow 3 w ((agsL m zss mode).map (Value.int .i64))) := by
  have hn := rows_bound h
  have e := hide (show agsL m zss mode = [] by unfold agsL; rw [hG]; rfl)
  have hG' := hide (show (isTabB m zss && modeB mode) = false from hG)
  clear hG
  go_enter Try.func20, Try.ntmps20
  go_wp2_with fail
  obtain ⟨wb, hwb⟩ : ∃ wb, wb = w.alloc (.cells #[.int .i64 m, .slice A n c] 26) := ⟨_, rfl⟩
  have hwz : wb.heap.size = w.heap.size + 1 := by rw [hwb]; simp
  have hbx : Below w.heap.size w wb := by rw [hwb]; go_grown
  have hst := own_start wb 3
  obtain ⟨wc, hwc⟩ : ∃ wc, wc = wb.alloc (.cells #[] 3) := ⟨_, rfl⟩
  have hbc : Below wb.heap.size wb wc := by rw [hwc]; go_grown
  have h' := h.later (hbx.trans (hbc.mono hbx.size))
  have k0 : wc.cell? ⟨w.heap.size, 0, none⟩ = some (.int .i64 m) := by rw [hbc.cell (by simp; omega), hwb, World.cell?_alloc_at _ _ _ _ rfl]; rfl
  have k1 : wc.cell? ⟨w.heap.size, 1, none⟩ = some (.slice A n c) := by rw [hbc.cell (by simp; omega), hwb, World.cell?_alloc_at _ _ _ _ rfl]; rfl
  have hb := hbx.trans (hbc.mono hbx.size)
  have hs1 : wb.heap.size ≤ wc.heap.size := hbc.size
  rw [← hwc, hwz] at hst
  rw [← hwb, ← hwc]
  rw [hwz] at hs1
  clear hwb hwc h hbx hbc hwz
  refine wp_loop_rounds 1 ?_
  rw [rounds_succ]
  by_cases h0 : 0 < n
  · have d0 : decide ((0 : Int) < (n : Int)) = true := by simp; omega
    have d0' : decide (0 < n) = true := by simp; omega
    go_wp2_with fail
    refine (l4fine _ _ _ _ _ _ _ h').mono ?_
    rintro e w1 ⟨rfl, hb1⟩
    rw [hG'.out]
    go_wp2_with fail
    go_ret
    exact ⟨_, 0, 0, rfl, by rw [e.out]; exact own_more (own_below hst hb1) (by omega), below_call hb hb1⟩
  · have d0 : decide ((0 : Int) < (n : Int)) = false := by simp; omega
    have d0' : decide (0 < n) = false := by simp; omega
    go_wp2_with fail
    go_ret
    exact ⟨_, 0, 0, rfl, by rw [e.out]; exact own_more hst (by omega), hb⟩
set_option maxHeartbeats 3200000 in
set_option maxRecDepth 100000 in
theorem specAgS_yes (m : Nat) (A : Option Addr) (n c : Nat) (zss : List (List Int)) (mode : Int) (w : World) (h : RowsAt w w.heap.size A n zss) (hG : agsG m zss mode = true) (hm : m ≤ 5) (hl : ∀ (i : Nat) (zs : List Int), zss[i]? = some zs → zs.length = m) :
    Calls Try.prog 20 #[.agg #[.int .i64 (m : Int), .slice A n c], .int .i64 mode] w (RetRow 3 w ((agsL m zss mode).map (Value.int .i64))) := by
  have hn := rows_bound h
  have hdone : ∀ ys, AgInv (agV mode zss m) n n 0 ys → ys = agsL m zss mode := fun ys hh => by rw [← h.1] at hh; exact hh.done hG
  replace hdone := hide hdone
  replace hl := hide hl
  have hG' := hide (show (isTabB m zss && modeB mode) = true from hG)
  clear hG
  go_enter Try.func20, Try.ntmps20
  go_wp2_with fail
  obtain ⟨wb, hwb⟩ : ∃ wb, wb = w.alloc (.cells #[.int .i64 (m : Int), .slice A n c] 26) := ⟨_, rfl⟩
  have hwz : wb.heap.size = w.heap.size + 1 := by rw [hwb]; simp
  have hbx : Below w.heap.size w wb := by rw [hwb]; go_grown
  have hst := own_start wb 3
  obtain ⟨wc, hwc⟩ : ∃ wc, wc = wb.alloc (.cells #[] 3) := ⟨_, rfl⟩
  have hbc : Below wb.heap.size wb wc := by rw [hwc]; go_grown
  have h' := h.later hbx
  have k0 : wb.cell? ⟨w.heap.size, 0, none⟩ = some (.int .i64 (m : Int)) := by rw [hwb, World.cell?_alloc_at _ _ _ _ rfl]; rfl
  have k1 : wb.cell? ⟨w.heap.size, 1, none⟩ = some (.slice A n c) := by rw [hwb, World.cell?_alloc_at _ _ _ _ rfl]; rfl
  rw [← hwc] at hst
  rw [← hwb, ← hwc]
  have hst' : wc.ownsRow wb.heap.size 3 1 (.slice (some ⟨w.heap.size + 1, 0, none⟩) 0 0) 0 (([] : List Int).map (Value.int .i64)) := by rw [← hwz]; exact hst
  have hk : w.heap.size < wb.heap.size := by omega
  clear hwb hwc h hst hwz
  go_loopw [5, 6, 7] (fun out i _ wr => ∃ (k N d : Nat) (A' : Option Addr) (ys : List Int), k ≤ n ∧ i = .int .i64 (k : Int) ∧ out = .slice A' N d ∧ wr.ownsRow wb.heap.size 3 1 (.slice A' N d) N (ys.map (Value.int .i64)) ∧ Below wb.heap.size wb wr ∧ AgInv (agV mode zss m) n k 0 ys) (fun _ i _ _ => n - (intOf i).toNat)
  case atStart => exact ⟨0, 0, 0, _, [], by omega, rfl, rfl, hst', hbc, AgInv.zero _ _⟩
  case round =>
    clear hst' hbc
    obtain ⟨i, N, d, A', ys, hi, rfl, rfl, hown, hb, hinv⟩ := hrel
    have k0' := cell_below hb k0 hk
    have k1' := cell_below hb k1 hk
    by_cases hlt : i < n
    · have hno1 := hinv.first
      replace hinv := hide hinv
      go_wp2_with fail
      refine (l4fine _ _ _ _ _ _ _ (h'.later hb)).mono ?_
      rintro e w1 ⟨rfl, hb1⟩
      rw [hG'.out]
      replace hown := own_below hown hb1
      have hs1 : wb.heap.size ≤ w1.heap.size := Nat.le_trans hb.size hb1.size
      replace hb := hb.trans (hb1.mono hb.size)
      clear hb1 k0' k1'
      have k0' := cell_below hb k0 hk
      have k1' := cell_below hb k1 hk
      go_wp2_with fail
      go_loopw [5, 7] (fun out j wq => ∃ (k N d : Nat) (A' : Option Addr) (ys : List Int), i < k ∧ k ≤ n ∧ j = .int .i64 (k : Int) ∧ out = .slice A' N d ∧ wq.ownsRow wb.heap.size 3 1 (.slice A' N d) N (ys.map (Value.int .i64)) ∧ Below wb.heap.size wb wq ∧ AgInv (agV mode zss m) n i k ys) (fun _ j _ => n - (intOf j).toNat)
      case atStart => exact ⟨i + 1, N, d, A', ys, by omega, by omega, by go_num, rfl, hown, hb, hno1⟩
      case round =>
        clear hno1 hinv k0' k1' hb hown hs1
        obtain ⟨k, N, d, A', ys, hik, hkn, rfl, rfl, hown, hb, hinv⟩ := hrel
        have k0' := cell_below hb k0 hk
        have k1' := cell_below hb k1 hk
        by_cases hkl : k < n
        · have h2 := h'.later hb
          obtain ⟨b, o, xs, A1, c1, e1, hbb, hz1, hc1, hr1⟩ := at_row h2 hlt
          obtain ⟨b', o', ys1, A2, c2, e2, hbb2, hz2, hc2, hr2⟩ := at_row h2 hkl
          have gx : zss.getD i [] = xs := by rw [List.getD_eq_getElem?_getD, hz1]; rfl
          have gy : zss.getD k [] = ys1 := by rw [List.getD_eq_getElem?_getD, hz2]; rfl
          have hcall := hide (l4agree m A n c zss mode i k xs ys1 wr h2 hm hz1 hz2 (hl.out _ _ hz1) (hl.out _ _ hz2))
          have hV : ((agrN mode xs ys1 m : Nat) : Int) = agV mode zss m i k := by unfold agV; rw [gx, gy]
          rw [hV] at hcall
          have hN : N ≤ 32 := by have h1 := own_len hown; rw [List.length_map] at h1; have := hinv.len hm; omega
          have hnext : ∀ ys', PutP ys (agV mode zss m i k) ys' → AgInv (agV mode zss m) n i (k + 1) ys' := fun ys' hp => hinv.put hik hkl hp
          replace hnext := hide hnext
          replace hinv := hide hinv
          generalize agV mode zss m i k = V at hcall hnext hV
          clear hV gx gy hr1 hr2 hc1 hc2 hz1 hz2 e1 e2
          go_wp2_with fail
          refine hcall.out.mono ?_
          rintro e w2 ⟨rfl, hb1⟩
          replace hown := own_below hown hb1
          replace hb := hb.trans (hb1.mono hb.size)
          clear hb1 k0' k1'
          have k0' := cell_below hb k0 hk
          have k1' := cell_below hb k1 hk
          go_wp2_with fail
          refine (l4put wb.heap.size A' N d ys V w2 hown (by omega) hb.size).mono ?_
          rintro e w3 ⟨A4, N4, c4, ys4, hp4, rfl, ho4, hb1⟩
          have hnext2 := hide (hnext.out _ hp4)
          replace hp4 := hide hp4
          replace hb := hb.trans (hb1.mono hb.size)
          clear hb1 k0' k1' hown
          have k0' := cell_below hb k0 hk
          have k1' := cell_below hb k1 hk
          go_wp2_with fail
          go_roundw
          case rel => exact ⟨k + 1, N4, c4, A4, ys4, by omega, by omega, by go_num, rfl, ho4, hb, hnext2.out⟩
          case measure => simp [intOf]; omega
        · obtain rfl : k = n := by omega
          have hst := hide (hinv.start (Nat.le_refl k))
          replace hinv := hide hinv
          go_wp2_with fail
          go_roundw
          case rel => exact ⟨i + 1, N, d, A', ys, by omega, by go_num, rfl, hown, hb, hst.out⟩
          case measure => simp [intOf]; omega
    · obtain rfl : i = n := by omega
      have hys := hide (hdone.out ys hinv)
      replace hinv := hide hinv
      go_wp2_with fail
      go_ret
      exact ⟨A', N, d, rfl, by rw [← hys.out]; exact own_more hown (by omega), hbx.trans (hb.mono hbx.size)⟩
theorem specAgS (m : Int) (A : Option Addr) (n c : Nat) (zss : List (List Int)) (mode : Int) (w : World) (h : RowsAt w w.heap.size A n zss) :
    Calls Try.prog 20 #[.agg #[.int .i64 m, .slice A n c], .int .i64 mode] w (RetRow 3 w ((agsL m zss mode).map (Value.int .i64))) := by
  rcases hG : agsG m zss mode with _ | _
  · exact specAgS_no _ _ _ _ _ _ _ h hG
  · have hG' := hG
    unfold agsG at hG'
    rw [Bool.and_eq_true] at hG'
    obtain ⟨m1, m5, m40, hlen⟩ := isTabB_m hG'.1
    obtain ⟨M, rfl⟩ : ∃ M : Nat, m = M := ⟨m.toNat, by omega⟩
    exact specAgS_yes M A n c zss mode w h hG (by omega) (fun i zs hz => by have := hlen i zs hz; omega)
end Go.Proofs.Ytkcckfpihpfbnaa
