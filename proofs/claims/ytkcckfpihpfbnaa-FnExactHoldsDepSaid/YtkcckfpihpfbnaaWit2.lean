/-
  WitnessOf and HoldsDep of the reference; the program's questions whether they are asked of valid arguments.
  Conditions: as each theorem says.
-/
import Derived.Test.YtkcckfpihpfbnaaWit
namespace Go.Proofs.Ytkcckfpihpfbnaa
open Go.RowKit
set_option linter.unusedVariables false

def witG (m : Int) (zss : List (List Int)) (mode L R : Int) : Bool := (isTabB m zss && modeB mode) && isDepB m L R
def WitR (m : Int) (zss : List (List Int)) (mode L R x y : Int) (f : Bool) : Prop :=
  (witG m zss mode L R = false ∧ x = -1 ∧ y = -1 ∧ f = false) ∨ (witG m zss mode L R = true ∧ IsWit (vioV mode zss m.toNat L.toNat R.toNat) zss.length x y f)
theorem WitR.uniq {m : Int} {zss : List (List Int)} {mode L R x y x' y' : Int} {f f' : Bool} (h : WitR m zss mode L R x y f) (h' : WitR m zss mode L R x' y' f') : x = x' ∧ y = y' ∧ f = f' := by
  rcases h with ⟨g, rfl, rfl, rfl⟩ | ⟨g, h⟩ <;> rcases h' with ⟨g', rfl, rfl, rfl⟩ | ⟨g', h'⟩
  · exact ⟨rfl, rfl, rfl⟩
  · rw [g] at g'; cases g'
  · rw [g] at g'; cases g'
  · exact h.uniq h'
def RetWit (w : World) (m : Int) (zss : List (List Int)) (mode L R : Int) (e : Ending) (w' : World) : Prop :=
  ∃ x y f, WitR m zss mode L R x y f ∧ e = .returned (.tuple #[.int .i64 x, .int .i64 y, .bool f]) ∧ Below w.heap.size w w'
def RetHold (w : World) (m : Int) (zss : List (List Int)) (mode L R : Int) (e : Ending) (w' : World) : Prop :=
  ∃ x y f, WitR m zss mode L R x y f ∧ e = .returned (.bool (witG m zss mode L R && !f)) ∧ Below w.heap.size w w'
theorem dep_nat {m L R : Int} (h : isDepB m L R = true) (h5 : m ≤ 5) : ∃ l r : Nat, L = l ∧ R = r ∧ l < 32 ∧ r < 5 := by
  simp only [isDepB, Bool.and_eq_true, decide_eq_true_eq] at h
  obtain ⟨⟨⟨_, h1⟩, h2⟩, h3⟩ := h
  have h4 := isAttrB_le _ _ h1
  exact ⟨L.toNat, R.toNat, by omega, by omega, by omega, by omega⟩
set_option maxHeartbeats 1600000 in
set_option maxRecDepth 100000 in
theorem specWit (m : Int) (A : Option Addr) (n c : Nat) (zss : List (List Int)) (mode L R : Int) (w : World) (h : RowsAt w w.heap.size A n zss) :
    Calls Try.prog 37 #[.agg #[.int .i64 m, .slice A n c], .int .i64 mode, .agg #[.int .i64 L, .int .i64 R]] w (RetWit w m zss mode L R) := by
  have lz := h.1
  rcases hf : (isTabB m zss && modeB mode) with _ | _
  · have hW : WitR m zss mode L R (-1) (-1) false := .inl ⟨by unfold witG; rw [hf]; rfl, rfl, rfl, rfl⟩
    replace hf := hide hf
    replace hW := hide hW
    clear lz
    go_enter Try.func37, Try.ntmps37
    go_wp2_with fail
    refine (l4fine _ _ _ _ _ _ _ (h.later ?_)).mono ?_
    · go_grown
    rintro e w1 ⟨rfl, hb1⟩
    rw [hf.out]
    obtain ⟨k0, k1, hk, d0, d1, hd, hb⟩ := box22 hb1
    clear hb1
    go_wp2_with fail
    refine bodyPost_ret (v := .tuple #[.int .i64 (-1), .int .i64 (-1), .bool false]) (by simp [results, Try.results37, go_sem]) rfl ?_
    exact ⟨-1, -1, false, hW.out, rfl, hb⟩
  rcases hD : isDepB m L R with _ | _
  · have hW : WitR m zss mode L R (-1) (-1) false := .inl ⟨by unfold witG; rw [hf, hD]; rfl, rfl, rfl, rfl⟩
    replace hf := hide hf
    replace hD := hide hD
    replace hW := hide hW
    clear lz
    go_enter Try.func37, Try.ntmps37
    go_wp2_with fail
    refine (l4fine _ _ _ _ _ _ _ (h.later ?_)).mono ?_
    · go_grown
    rintro e w1 ⟨rfl, hb1⟩
    rw [hf.out]
    obtain ⟨k0, k1, hk, d0, d1, hd, hb⟩ := box22 hb1
    clear hb1
    go_wp2_with fail
    refine (specDep _ _ _ _).mono ?_
    rintro e w2 ⟨rfl, hb2⟩
    rw [hD.out]
    replace hb := below_call hb hb2
    clear hb2
    go_wp2_with fail
    refine bodyPost_ret (v := .tuple #[.int .i64 (-1), .int .i64 (-1), .bool false]) (by simp [results, Try.results37, go_sem]) rfl ?_
    exact ⟨-1, -1, false, hW.out, rfl, hb⟩
  have hT : isTabB m zss = true := by rw [Bool.and_eq_true] at hf; exact hf.1
  obtain ⟨m1, m5, m40, hlen⟩ := isTabB_m hT
  obtain ⟨l, r, rfl, rfl, l32, r5⟩ := dep_nat hD m5
  obtain ⟨M, rfl⟩ : ∃ M : Nat, m = M := ⟨m.toNat, by omega⟩
  have hG : witG M zss mode l r = true := by unfold witG; rw [hf, hD]; rfl
  have hlen' : ∀ (i : Nat) (zs : List Int), zss[i]? = some zs → zs.length = M := fun i zs hz => by have := hlen i zs hz; omega
  have hM : M ≤ 5 := by omega
  replace hf := hide hf
  replace hD := hide hD
  replace hG := hide hG
  replace hlen' := hide hlen'
  replace lz := hide lz
  clear hlen hT
  go_enter Try.func37, Try.ntmps37
  go_wp2_with fail
  refine (l4fine _ _ _ _ _ _ _ (h.later ?_)).mono ?_
  · go_grown
  rintro e w1 ⟨rfl, hb1⟩
  rw [hf.out]
  obtain ⟨k0, k1, hk, d0, d1, hd, hb⟩ := box22 hb1
  clear hb1
  go_wp2_with fail
  refine (specDep _ _ _ _).mono ?_
  rintro e w2 ⟨rfl, hb2⟩
  rw [hD.out]
  replace k0 := cell_below hb2 k0 hk
  replace k1 := cell_below hb2 k1 hk
  replace d0 := cell_below hb2 d0 hd
  replace d1 := cell_below hb2 d1 hd
  replace hb := below_call hb hb2
  clear hb2
  go_wp2_with fail
  refine (l6pair M A n c zss mode l r _ (h.later hb) hM hlen'.out l32 r5).mono ?_
  rintro e w3 ⟨x, y, f, hW, rfl, hb3⟩
  have hfl := hide hW.flag
  have hW' := hide (show WitR M zss mode l r x y f from .inr ⟨hG.out, by rw [lz.out]; exact hW⟩)
  clear hW
  go_wp2_with fail
  refine bodyPost_ret (v := .tuple #[.int .i64 x, .int .i64 y, .bool (decide (0 ≤ x))]) (by simp [results, Try.results37, go_sem]) rfl ?_
  exact ⟨x, y, f, hW'.out, by rw [hfl.out], below_call hb hb3⟩
set_option maxHeartbeats 1600000 in
set_option maxRecDepth 100000 in
theorem specHolds (m : Int) (A : Option Addr) (n c : Nat) (zss : List (List Int)) (mode L R : Int) (w : World) (h : RowsAt w w.heap.size A n zss) :
    Calls Try.prog 40 #[.agg #[.int .i64 m, .slice A n c], .int .i64 mode, .agg #[.int .i64 L, .int .i64 R]] w (RetHold w m zss mode L R) := by
  have lz := h.1
  rcases hf : (isTabB m zss && modeB mode) with _ | _
  · have hW : WitR m zss mode L R (-1) (-1) false := .inl ⟨by unfold witG; rw [hf]; rfl, rfl, rfl, rfl⟩
    have hNG : witG m zss mode L R = false := by unfold witG; rw [hf]; rfl
    replace hf := hide hf
    replace hW := hide hW
    have hN := hide hNG
    clear hNG
    clear lz
    go_enter Try.func40, Try.ntmps40
    go_wp2_with fail
    refine (l4fine _ _ _ _ _ _ _ (h.later ?_)).mono ?_
    · go_grown
    rintro e w1 ⟨rfl, hb1⟩
    rw [hf.out]
    obtain ⟨k0, k1, hk, d0, d1, hd, hb⟩ := box22 hb1
    clear hb1
    go_wp2_with fail
    refine bodyPost_ret (v := .bool false) (by simp [results, Try.results40, go_sem]) rfl ?_
    exact ⟨-1, -1, false, hW.out, by rw [hN.out]; rfl, hb⟩
  rcases hD : isDepB m L R with _ | _
  · have hW : WitR m zss mode L R (-1) (-1) false := .inl ⟨by unfold witG; rw [hf, hD]; rfl, rfl, rfl, rfl⟩
    have hNG : witG m zss mode L R = false := by unfold witG; rw [hf, hD]; rfl
    replace hf := hide hf
    replace hD := hide hD
    replace hW := hide hW
    have hN := hide hNG
    clear hNG
    clear lz
    go_enter Try.func40, Try.ntmps40
    go_wp2_with fail
    refine (l4fine _ _ _ _ _ _ _ (h.later ?_)).mono ?_
    · go_grown
    rintro e w1 ⟨rfl, hb1⟩
    rw [hf.out]
    obtain ⟨k0, k1, hk, d0, d1, hd, hb⟩ := box22 hb1
    clear hb1
    go_wp2_with fail
    refine (specDep _ _ _ _).mono ?_
    rintro e w2 ⟨rfl, hb2⟩
    rw [hD.out]
    replace hb := below_call hb hb2
    clear hb2
    go_wp2_with fail
    refine bodyPost_ret (v := .bool false) (by simp [results, Try.results40, go_sem]) rfl ?_
    exact ⟨-1, -1, false, hW.out, by rw [hN.out]; rfl, hb⟩
  have hT : isTabB m zss = true := by rw [Bool.and_eq_true] at hf; exact hf.1
  obtain ⟨m1, m5, m40, hlen⟩ := isTabB_m hT
  obtain ⟨l, r, rfl, rfl, l32, r5⟩ := dep_nat hD m5
  obtain ⟨M, rfl⟩ : ∃ M : Nat, m = M := ⟨m.toNat, by omega⟩
  have hG : witG M zss mode l r = true := by unfold witG; rw [hf, hD]; rfl
  have hlen' : ∀ (i : Nat) (zs : List Int), zss[i]? = some zs → zs.length = M := fun i zs hz => by have := hlen i zs hz; omega
  have hM : M ≤ 5 := by omega
  replace hf := hide hf
  replace hD := hide hD
  replace hG := hide hG
  replace hlen' := hide hlen'
  replace lz := hide lz
  clear hlen hT
  go_enter Try.func40, Try.ntmps40
  go_wp2_with fail
  refine (l4fine _ _ _ _ _ _ _ (h.later ?_)).mono ?_
  · go_grown
  rintro e w1 ⟨rfl, hb1⟩
  rw [hf.out]
  obtain ⟨k0, k1, hk, d0, d1, hd, hb⟩ := box22 hb1
  clear hb1
  go_wp2_with fail
  refine (specDep _ _ _ _).mono ?_
  rintro e w2 ⟨rfl, hb2⟩
  rw [hD.out]
  replace k0 := cell_below hb2 k0 hk
  replace k1 := cell_below hb2 k1 hk
  replace d0 := cell_below hb2 d0 hd
  replace d1 := cell_below hb2 d1 hd
  replace hb := below_call hb hb2
  clear hb2
  go_wp2_with fail
  refine (l6pair M A n c zss mode l r _ (h.later hb) hM hlen'.out l32 r5).mono ?_
  rintro e w3 ⟨x, y, f, hW, rfl, hb3⟩
  have hfl := hide hW.flag
  have hW' := hide (show WitR M zss mode l r x y f from .inr ⟨hG.out, by rw [lz.out]; exact hW⟩)
  clear hW
  go_wp2_with fail
  refine bodyPost_ret (v := .bool (decide (x < 0))) (by simp [results, Try.results40, go_sem]) rfl ?_
  exact ⟨x, y, f, hW'.out, ret_bool (by rw [hG.out, hfl.out]; by_cases hx : 0 ≤ x <;> simp [hx] <;> omega), below_call hb hb3⟩
set_option maxHeartbeats 1600000 in
set_option maxRecDepth 100000 in
theorem implAsked (m : Int) (A : Option Addr) (n c : Nat) (zss : List (List Int)) (mode L R : Int) (w : World) (h : RowsAt w w.heap.size A n zss) :
    Calls Try.prog 93 #[.agg #[.int .i64 m, .slice A n c], .int .i64 mode, .agg #[.int .i64 L, .int .i64 R]] w (RetVal w (.bool (witG m zss mode L R))) := by
  rcases hT : isTabB m zss with _ | _
  · have hG : witG m zss mode L R = false := by unfold witG; rw [hT]; rfl
    rw [hG]
    clear hG
    replace hT := hide hT
    go_enter Try.func93, Try.ntmps93
    go_wp2_with fail
    refine (implIsTab _ _ _ _ _ _ (h.later ?_)).mono ?_
    · go_grown
    rintro e w1 ⟨rfl, hb1⟩
    rw [hT.out]
    obtain ⟨k0, k1, hk, d0, d1, hd, hb⟩ := box22 hb1
    clear hb1
    go_wp2_with fail
    go_ret
    exact ⟨rfl, hb⟩
  rcases hm : modeB mode with _ | _
  · have hG : witG m zss mode L R = false := by unfold witG; rw [hT, hm]; rfl
    rw [hG]
    clear hG
    replace hT := hide hT
    replace hm := hide hm
    go_enter Try.func93, Try.ntmps93
    go_wp2_with fail
    refine (implIsTab _ _ _ _ _ _ (h.later ?_)).mono ?_
    · go_grown
    rintro e w1 ⟨rfl, hb1⟩
    rw [hT.out]
    obtain ⟨k0, k1, hk, d0, d1, hd, hb⟩ := box22 hb1
    clear hb1
    go_wp2_with fail
    refine (ismode _ _).mono ?_
    rintro e w2 ⟨rfl, rfl⟩
    rw [hm.out]
    go_wp2_with fail
    go_ret
    exact ⟨rfl, hb⟩
  have hG : witG m zss mode L R = isDepB m L R := by unfold witG; rw [hT, hm]; rfl
  rw [hG]
  clear hG
  replace hT := hide hT
  replace hm := hide hm
  go_enter Try.func93, Try.ntmps93
  go_wp2_with fail
  refine (implIsTab _ _ _ _ _ _ (h.later ?_)).mono ?_
  · go_grown
  rintro e w1 ⟨rfl, hb1⟩
  rw [hT.out]
  obtain ⟨k0, k1, hk, d0, d1, hd, hb⟩ := box22 hb1
  clear hb1
  go_wp2_with fail
  refine (ismode _ _).mono ?_
  rintro e w2 ⟨rfl, rfl⟩
  rw [hm.out]
  go_wp2_with fail
  refine (implDep _ _ _ _).mono ?_
  rintro e w3 ⟨rfl, hb3⟩
  go_wp2_with fail
  go_ret
  exact ⟨rfl, below_call hb hb3⟩
end Go.Proofs.Ytkcckfpihpfbnaa
