/-
  Plain laws of numerals joined: the texts of rows and of lists of rows, and how long they are.
  Conditions: as each theorem says.
-/
import Derived.Test.YtooiobcghobefaaGreatDoorJoinP
import Derived.Test.YtooiobcghobefaaGreatDoorHelp
import Derived.Test.YtooiobcghobefaaGreatDoorFmt
namespace Go.Proofs.YtooiobcghobefaaGreatDoor
open Go.RowKit Go.Lib
set_option linter.unusedVariables false

theorem itoa_len {n : Int} (h0 : -9223372036854775808 ≤ n) (h1 : n ≤ 9223372036854775807) : (itoa n).length ≤ 20 := by
  unfold itoa
  split
  · rw [List.length_cons, decDigits_length]
    have := nDigits_le (u := n.natAbs) (k := 19) (by omega) (by omega)
    omega
  · rw [decDigits_length]
    have := nDigits_le (u := n.toNat) (k := 19) (by omega) (by omega)
    omega
theorem itoa_ne (n : Int) : itoa n ≠ [] := by
  unfold itoa
  split
  · simp
  · exact dec_ne _
/-- The words of one row. -/
def wordsL (zs : List Int) : List UInt8 := Lib.join (zs.map itoa) [32]
theorem wordsL_len {zs : List Int} (h : ∀ z ∈ zs, -9223372036854775808 ≤ z ∧ z ≤ 9223372036854775807) : (wordsL zs).length ≤ 21 * zs.length := by
  have h1 := join_len [32] (zs.map itoa)
  have h2 := lens_map itoa 20 zs fun z hz => itoa_len (h z hz).1 (h z hz).2
  unfold wordsL
  rw [List.length_map] at h1
  simp only [List.length_cons, List.length_nil] at h1
  omega
theorem wordsL_zero {zs : List Int} {z : Int} (h : zs[0]? = some z) : wordsL (zs.take 1) = itoa z := by
  unfold wordsL
  rw [List.map_take]
  exact join_take_zero _ (by rw [List.getElem?_map, h]; rfl)
theorem wordsL_succ {zs : List Int} {k : Nat} {z : Int} (h : zs[k + 1]? = some z) : wordsL (zs.take (k + 2)) = wordsL (zs.take (k + 1)) ++ ([32] ++ itoa z) := by
  unfold wordsL
  rw [List.map_take, List.map_take]
  exact join_take_succ _ (by rw [List.getElem?_map, h]; rfl)
/-- The texts of rows, one behind the other. -/
def partL (zss : List (List Int)) : List UInt8 := Lib.join (zss.map wordsL) [32, 124, 32]
theorem partL_zero {zss : List (List Int)} {zs : List Int} (h : zss[0]? = some zs) : partL (zss.take 1) = wordsL zs := by
  unfold partL
  rw [List.map_take]
  exact join_take_zero _ (by rw [List.getElem?_map, h]; rfl)
theorem partL_succ {zss : List (List Int)} {k : Nat} {zs : List Int} (h : zss[k + 1]? = some zs) : partL (zss.take (k + 2)) = partL (zss.take (k + 1)) ++ ([32, 124, 32] ++ wordsL zs) := by
  unfold partL
  rw [List.map_take, List.map_take]
  exact join_take_succ _ (by rw [List.getElem?_map, h]; rfl)
def FitsAll (zss : List (List Int)) : Prop := ∀ zs ∈ zss, ∀ z ∈ zs, -9223372036854775808 ≤ z ∧ z ≤ 9223372036854775807
theorem lensW {zss : List (List Int)} (h : FitsAll zss) : Lib.lens (zss.map wordsL) ≤ 21 * lens zss := by
  induction zss with
  | nil => simp [Lib.lens, lens]
  | cons zs r ih =>
    have h1 := wordsL_len (h zs (by simp))
    have h2 := ih fun ys hy => h ys (List.mem_cons_of_mem _ hy)
    simp only [Lib.lens, lens, List.map_cons, List.sum_cons] at h2 ⊢
    omega
theorem partL_len {zss : List (List Int)} (h : FitsAll zss) : (partL zss).length ≤ 21 * lens zss + 3 * zss.length := by
  have h1 := join_len [32, 124, 32] (zss.map wordsL)
  have h2 := lensW h
  unfold partL
  rw [List.length_map] at h1
  simp only [List.length_cons, List.length_nil] at h1
  omega
theorem FitsAll.take {zss : List (List Int)} (h : FitsAll zss) (k : Nat) : FitsAll (zss.take k) := fun zs hz => h zs (List.mem_of_mem_take hz)
theorem FitsAll.at_ {zss : List (List Int)} (h : FitsAll zss) {k : Nat} {zs : List Int} (hk : zss[k]? = some zs) : ∀ z ∈ zs, -9223372036854775808 ≤ z ∧ z ≤ 9223372036854775807 := h zs (List.mem_of_getElem? hk)
/-- What FormatPartition answers. -/
def fpV (zss : List (List Int)) : List UInt8 := if partL zss = [] then noneL else partL zss
theorem fpV_no {zss : List (List Int)} (h : (partL zss == []) = true) : fpV zss = noneL := if_pos (beq_iff_eq.1 h)
theorem fpV_yes {zss : List (List Int)} (h : (partL zss == []) = false) : fpV zss = partL zss := if_neg (beq_eq_false_iff_ne.1 h)
/-- What stands ahead of row i. -/
def preL (zss : List (List Int)) (i : Nat) : List UInt8 := if i = 0 then [] else partL (zss.take i) ++ [32, 124, 32]
theorem preL_next {zss : List (List Int)} {i : Nat} {zs : List Int} (h : zss[i]? = some zs) : preL zss i ++ wordsL zs = partL (zss.take (i + 1)) := by
  unfold preL
  cases i with
  | zero => rw [if_pos rfl, List.nil_append, partL_zero h]
  | succ k => rw [if_neg (by omega), partL_succ h, List.append_assoc]
theorem preL_zero (zss : List (List Int)) : preL zss 0 = [] := if_pos rfl
theorem preL_succ (zss : List (List Int)) {i : Nat} (h : 0 < i) : preL zss i = partL (zss.take i) ++ [32, 124, 32] := if_neg (by omega)
theorem words_nil : wordsL [] = [] := rfl
theorem part_nil : partL [] = [] := rfl
end Go.Proofs.YtooiobcghobefaaGreatDoor
