/-
  Plain laws of tables as texts.
  Conditions: as each theorem says.
-/
import Derived.Test.YtooiobcghobefaaGreatDoorFpP
import Derived.Test.YtooiobcghobefaaGreatDoorIsTab
namespace Go.Proofs.YtooiobcghobefaaGreatDoor
open Go.RowKit Go.Lib
set_option linter.unusedVariables false

def nullL : List UInt8 := [110, 117, 108, 108]
/-- The word of one value. -/
def cellW (v : Int) : List UInt8 := if v = -1 then nullL else itoa v
theorem cellW_null : cellW (-1) = nullL := if_pos rfl
theorem cellW_num {v : Int} (h : v ≠ -1) : cellW v = itoa v := if_neg h
theorem cellW_len {v : Int} (h : -1 ≤ v ∧ v ≤ 40) : (cellW v).length ≤ 20 := by
  unfold cellW
  split
  · decide
  · exact itoa_len (by omega) (by omega)
/-- The words of one row. -/
def rowW (zs : List Int) : List UInt8 := Lib.join (zs.map cellW) [32]
theorem rowW_nil : rowW [] = [] := rfl
theorem rowW_len {zs : List Int} (h : ∀ z ∈ zs, -1 ≤ z ∧ z ≤ 40) : (rowW zs).length ≤ 21 * zs.length := by
  have h1 := join_len [32] (zs.map cellW)
  have h2 := lens_map cellW 20 zs fun z hz => cellW_len (h z hz)
  unfold rowW
  rw [List.length_map] at h1
  simp only [List.length_cons, List.length_nil] at h1
  omega
theorem rowW_zero {zs : List Int} {k : Nat} {z : Int} (h : zs[k]? = some z) (hk : k = 0) : rowW (zs.take (k + 1)) = rowW (zs.take k) ++ cellW z := by
  subst hk
  unfold rowW
  rw [List.map_take, List.take_zero]
  exact join_take_zero _ (by rw [List.getElem?_map, h]; rfl)
theorem rowW_step {zs : List Int} {k : Nat} {z : Int} (h : zs[k]? = some z) (hk : 0 < k) : rowW (zs.take (k + 1)) = rowW (zs.take k) ++ ([32] ++ cellW z) := by
  obtain ⟨q, rfl⟩ : ∃ q, k = q + 1 := ⟨k - 1, by omega⟩
  unfold rowW
  rw [List.map_take, List.map_take]
  exact join_take_succ _ (by rw [List.getElem?_map, h]; rfl)
/-- The lines of rows. -/
def tabL (zss : List (List Int)) : List UInt8 := zss.flatMap fun zs => rowW zs ++ [10]
theorem tabL_succ {zss : List (List Int)} {i : Nat} {zs : List Int} (h : zss[i]? = some zs) : tabL (zss.take (i + 1)) = tabL (zss.take i) ++ (rowW zs ++ [10]) := by
  unfold tabL
  rw [List.take_add_one, h, List.flatMap_append]; simp
theorem tabL_len {zss : List (List Int)} {m : Nat} (h : ∀ zs ∈ zss, zs.length = m ∧ ∀ z ∈ zs, -1 ≤ z ∧ z ≤ 40) (hm : m ≤ 5) : (tabL zss).length ≤ 106 * zss.length := by
  induction zss with
  | nil => simp [tabL]
  | cons zs r ih =>
    have h1 := rowW_len (h zs (by simp)).2
    have h0 := (h zs (by simp)).1
    have h2 := ih fun ys hy => h ys (List.mem_cons_of_mem _ hy)
    unfold tabL at h2 ⊢
    rw [List.flatMap_cons, List.length_append, List.length_append, List.length_cons, List.length_nil, List.length_cons]
    omega
theorem tab_parts {m : Int} {zss : List (List Int)} (h : isTabB m zss = true) : ∃ M : Nat, m = M ∧ 1 ≤ M ∧ M ≤ 5 ∧ zss.length ≤ 40 ∧ ∀ zs ∈ zss, zs.length = M ∧ ∀ z ∈ zs, -1 ≤ z ∧ z ≤ 40 := by
  unfold isTabB at h
  rw [Bool.and_eq_true, Bool.and_eq_true, Bool.and_eq_true, decide_eq_true_eq, decide_eq_true_eq, decide_eq_true_eq, List.all_eq_true] at h
  obtain ⟨⟨⟨h1, h2⟩, h3⟩, h4⟩ := h
  obtain ⟨M, rfl⟩ : ∃ M : Nat, m = M := ⟨m.toNat, by omega⟩
  refine ⟨M, rfl, by omega, by omega, h3, fun zs hz => ?_⟩
  have h5 := h4 zs hz
  unfold isRowB at h5
  rw [Bool.and_eq_true, List.all_eq_true, beq_iff_eq] at h5
  refine ⟨by omega, fun z hz2 => ?_⟩
  have h6 := h5.1 z hz2
  unfold cellB at h6
  simpa using h6
/-- The first line. -/
def headL (m : Int) : List UInt8 := fmtA (((2 ^ m.toNat : Nat) : Int) - 1) ++ [10]
theorem headL_len (m : Int) : (headL m).length ≤ 6 := by
  unfold headL
  have := fmtA_len (((2 ^ m.toNat : Nat) : Int) - 1)
  rw [List.length_append, List.length_cons, List.length_nil]; omega
/-- What FormatTable answers. -/
def ftV (m : Int) (zss : List (List Int)) : List UInt8 := if isTabB m zss = true then headL m ++ tabL zss else []
theorem ftV_yes {m : Int} {zss : List (List Int)} (h : isTabB m zss = true) : ftV m zss = headL m ++ tabL zss := if_pos h
theorem ftV_no {m : Int} {zss : List (List Int)} (h : isTabB m zss = false) : ftV m zss = [] := if_neg (by rw [h]; simp)
end Go.Proofs.YtooiobcghobefaaGreatDoor
