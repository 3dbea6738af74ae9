/-
  Plain laws of tables read from texts.
  Conditions: as each theorem says.
-/
import Derived.Test.YtooiobcghobefaaGreatDoorFtP
import Derived.Test.YtooiobcghobefaaGreatDoorSplP
import Derived.Test.YtooiobcghobefaaGreatDoorItaS2
namespace Go.Proofs.YtooiobcghobefaaGreatDoor
open Go.RowKit Go.Lib
set_option linter.unusedVariables false

/-- The value of a word. -/
def ptVal (s : List UInt8) : Int := if s = nullL then -1 else if parG s = true ∧ 0 ≤ parN s then parN s else -100000
/-- Is a word that of a value? -/
def okB (s : List UInt8) : Bool := cellB (ptVal s)
theorem ptVal_null {s : List UInt8} (h : (s == nullL) = true) : ptVal s = -1 := if_pos (beq_iff_eq.1 h)
theorem ptVal_bad {s : List UInt8} (h : (s == nullL) = false) (hg : parG s = false) : ptVal s = -100000 := by unfold ptVal; rw [if_neg (beq_eq_false_iff_ne.1 h), if_neg (by rw [hg]; simp)]
theorem ptVal_neg {s : List UInt8} (h : (s == nullL) = false) (hg : parN s < 0) : ptVal s = -100000 := by unfold ptVal; rw [if_neg (beq_eq_false_iff_ne.1 h), if_neg (by omega)]
theorem ptVal_num {s : List UInt8} (h : (s == nullL) = false) (hg : parG s = true) (h0 : 0 ≤ parN s) : ptVal s = parN s := by unfold ptVal; rw [if_neg (beq_eq_false_iff_ne.1 h), if_pos ⟨hg, h0⟩]
theorem okB_bad {s : List UInt8} (h : ptVal s = -100000) : okB s = false := by unfold okB; rw [h]; decide
theorem okB_null {s : List UInt8} (h : ptVal s = -1) : okB s = true := by unfold okB; rw [h]; decide
theorem okB_big {s : List UInt8} (h : 40 < ptVal s) : okB s = false := by unfold okB cellB; simp; omega
theorem okB_num {s : List UInt8} (h : 0 ≤ ptVal s) (h1 : ptVal s ≤ 40) : okB s = true := by unfold okB cellB; simp; omega
theorem parN_fits (s : List UInt8) : -9223372036854775808 ≤ parN s ∧ parN s ≤ 9223372036854775807 := by
  unfold parN
  split
  · rename_i h
    simp only [parG, Bool.and_eq_true] at h
    have := h.1
    unfold inP at this
    simp at this
    omega
  · omega
theorem ptVal_fits (s : List UInt8) : -9223372036854775808 ≤ ptVal s ∧ ptVal s ≤ 9223372036854775807 := by
  have := parN_fits s
  unfold ptVal
  split
  · omega
  · split <;> omega
/-- The values of a line. -/
def rowP (l : List UInt8) : List Int := (partsV 32 l).map ptVal
/-- The rows of lines: all but the first and the last. -/
def ptRows (ls : List (List UInt8)) : List (List Int) := ((ls.drop 1).take (ls.length - 2)).map rowP
theorem ptRows_len (ls : List (List UInt8)) : (ptRows ls).length = ls.length - 2 := by
  unfold ptRows
  rw [List.length_map, List.length_take, List.length_drop]; omega
def ptZ (l : List UInt8) : List (List Int) := ptRows (partsV 10 l)
def ptC (l : List UInt8) : Int := (((partsV 10 l).headD []).length : Int)
def ptG (l : List UInt8) : Bool := !(l == []) && (ftV (ptC l) (ptZ l) == l)
def ptM (l : List UInt8) : Int := if ptG l = true then ptC l else 0
def ptR (l : List UInt8) : List (List Int) := if ptG l = true then ptZ l else []
theorem ptM_yes {l : List UInt8} (h : ptG l = true) : ptM l = ptC l := if_pos h
theorem ptR_yes {l : List UInt8} (h : ptG l = true) : ptR l = ptZ l := if_pos h
theorem ptM_no {l : List UInt8} (h : ptG l = false) : ptM l = 0 := if_neg (by rw [h]; simp)
theorem ptR_no {l : List UInt8} (h : ptG l = false) : ptR l = [] := if_neg (by rw [h]; simp)
theorem ptG_tab {l : List UInt8} (h : ptG l = true) : isTabB (ptC l) (ptZ l) = true ∧ 2 ≤ (partsV 10 l).length ∧ (partsV 10 l).length ≤ 42 := by
  unfold ptG at h
  rw [Bool.and_eq_true, beq_iff_eq, Bool.not_eq_true', beq_eq_false_iff_ne] at h
  obtain ⟨h1, h2⟩ := h
  cases hT : isTabB (ptC l) (ptZ l)
  · rw [ftV_no hT] at h2
    exact absurd h2.symm h1
  · refine ⟨rfl, ?_, ?_⟩
    · rw [ftV_yes hT] at h2
      rw [partsV_len]
      have : 0 < l.count 10 := List.count_pos_iff.2 (by rw [← h2]; unfold headL; simp)
      omega
    · obtain ⟨M, _, _, _, h5, _⟩ := tab_parts hT
      have := ptRows_len (partsV 10 l)
      unfold ptZ at h5
      omega
theorem ptG_few {l : List UInt8} (h : (partsV 10 l).length < 2) : ptG l = false := by
  cases hg : ptG l
  · rfl
  · have := ptG_tab hg; omega
theorem ptG_many {l : List UInt8} (h : 42 < (partsV 10 l).length) : ptG l = false := by
  cases hg : ptG l
  · rfl
  · have := ptG_tab hg; omega
theorem ptG_word {l ln s : List UInt8} {k j : Nat} (hk : k < (partsV 10 l).length - 2) (hln : (partsV 10 l)[k + 1]? = some ln) (hs : (partsV 32 ln)[j]? = some s) (hb : okB s = false) : ptG l = false := by
  cases hg : ptG l
  · rfl
  · obtain ⟨M, _, _, _, _, h5⟩ := tab_parts (ptG_tab hg).1
    have hm : rowP ln ∈ ptZ l := by
      unfold ptZ ptRows
      refine List.mem_map_of_mem ?_
      refine List.mem_of_getElem? (i := k) ?_
      rw [List.getElem?_take, if_pos hk, List.getElem?_drop, Nat.add_comm 1, hln]
    have h6 := (h5 _ hm).2 (ptVal s) (List.mem_map_of_mem (List.mem_of_getElem? hs))
    unfold okB cellB at hb
    simp at hb
    omega
theorem ptG_eq {l : List UInt8} (h : l ≠ []) : ptG l = (ftV (ptC l) (ptZ l) == l) := by unfold ptG; rw [beq_eq_false_iff_ne.2 h]; rfl
theorem ptG_nil : ptG [] = false := rfl
theorem ptG_tabno {l : List UInt8} (h : isTabB (ptC l) (ptZ l) = false) : ptG l = false := by
  cases hg : ptG l
  · rfl
  · rw [(ptG_tab hg).1] at h; cases h
theorem parts_ne (c : UInt8) (l : List UInt8) : 1 ≤ (partsV c l).length := by rw [partsV_len]; omega
theorem ptC_at {l s : List UInt8} (h : (partsV 10 l)[0]? = some s) : ptC l = (s.length : Int) := by
  unfold ptC
  cases hp : partsV 10 l with
  | nil => rw [hp] at h; cases h
  | cons a r => rw [hp] at h; cases h; rfl
theorem rows_step {ls : List (List UInt8)} {k : Nat} {ln : List UInt8} (h : ls[k + 1]? = some ln) : ((ls.drop 1).take (k + 1)).map rowP = ((ls.drop 1).take k).map rowP ++ [rowP ln] := by
  rw [List.take_add_one, List.getElem?_drop, Nat.add_comm 1, h]; simp
theorem rowP_step {ln s : List UInt8} {k : Nat} (h : (partsV 32 ln)[k]? = some s) : (((partsV 32 ln).take k).map ptVal ++ [ptVal s]) = ((partsV 32 ln).take (k + 1)).map ptVal := by
  rw [List.take_add_one, h]; simp
end Go.Proofs.YtooiobcghobefaaGreatDoor
