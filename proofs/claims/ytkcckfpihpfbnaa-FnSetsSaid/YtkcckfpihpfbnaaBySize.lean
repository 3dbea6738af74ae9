/-
  PartsBySize of the reference and of the program.
  Conditions: as each theorem says.
-/
import Derived.Test.YtkcckfpihpfbnaaOnes
import Derived.Test.YtkcckfpihpfbnaaMem
namespace Go.Proofs.Ytkcckfpihpfbnaa
open Go.RowKit Go.Shelf Go.Lib Go.Sort
set_option linter.unusedVariables false

def keyS (x : Fin 32) : Nat := pcN x.val * 32 + x.val
def keyB : Bool := (List.range 32).all fun x => (List.range 32).all fun y => (ltOf cmpS (Fin.ofNat 32 x) (Fin.ofNat 32 y) == decide (keyS (Fin.ofNat 32 x) < keyS (Fin.ofNat 32 y)))
theorem keyB_true : keyB = true := by decide +kernel
theorem ltS (x y : Fin 32) : ltOf cmpS x y = decide (keyS x < keyS y) := by
  have h := beq_iff_eq.1 (List.all_eq_true.1 (List.all_eq_true.1 keyB_true x.val (List.mem_range.2 x.isLt)) y.val (List.mem_range.2 y.isLt))
  rwa [show Fin.ofNat 32 x.val = x from Fin.ext (Nat.mod_eq_of_lt x.isLt), show Fin.ofNat 32 y.val = y from Fin.ext (Nat.mod_eq_of_lt y.isLt)] at h
theorem swoS : SWO (ltOf cmpS) where
  irrefl x := by rw [ltS]; simp
  trans x y z h1 h2 := by rw [ltS] at *; simp at *; omega
  ntrans x y z h1 h2 := by rw [ltS] at *; simp at *; omega
theorem totS (x y : Fin 32) (h1 : ltOf cmpS x y = false) (h2 : ltOf cmpS y x = false) : x = y := by
  rw [ltS, decide_eq_false_iff_not] at h1 h2
  have hx := x.isLt
  have hy := y.isLt
  unfold keyS at h1 h2
  exact Fin.ext (by omega)
def encF (x : Fin 32) : Value := .int .i64 (x.val : Int)
/-- The sets of M columns by size. -/
def szL (P s x : Nat) : List Nat := (List.range s).flatMap (fun s' => (List.range P).filter fun y => pcN y == s') ++ (List.range x).filter fun y => pcN y == s
def partsL (n : Int) : List Int := if 0 ≤ n ∧ n ≤ 5 then (szL (2 ^ n.toNat) (n.toNat + 1) 0).map Int.ofNat else []
theorem szL_next (P s : Nat) : szL P (s + 1) 0 = szL P s P := by unfold szL; rw [List.range_succ (n := s), List.flatMap_append]; simp
theorem szL_yes {P s x : Nat} (h : pcN x = s) : szL P s (x + 1) = szL P s x ++ [x] := by unfold szL; rw [List.range_succ, List.filter_append, List.append_assoc]; simp [h]
theorem szL_no {P s x : Nat} (h : pcN x ≠ s) : szL P s (x + 1) = szL P s x := by unfold szL; rw [List.range_succ, List.filter_append]; simp [h]
def leS (x y : Fin 32) : Bool := !(ltOf cmpS) y x
def sortB (M : Nat) : Bool := ((List.range (2 ^ M)).map (Fin.ofNat 32)).isPerm ((szL (2 ^ M) (M + 1) 0).map (Fin.ofNat 32)) && decide (((szL (2 ^ M) (M + 1) 0).map (Fin.ofNat 32)).Pairwise fun x y => keyS x ≤ keyS y) && (szL (2 ^ M) (M + 1) 0).all fun x => decide (x < 32)
theorem sortB_all : (List.range 6).all sortB = true := by decide +kernel
theorem sorted_parts (M : Nat) (hM : M ≤ 5) : (((List.range (2 ^ M)).map (Fin.ofNat 32)).mergeSort fun x y => !(ltOf cmpS) y x).map encF = ((szL (2 ^ M) (M + 1) 0).map Int.ofNat).map (Value.int .i64) := by
  have h := List.all_eq_true.1 sortB_all M (List.mem_range.2 (by omega))
  unfold sortB at h
  rw [Bool.and_eq_true, Bool.and_eq_true, decide_eq_true_eq, List.isPerm_iff] at h
  obtain ⟨⟨h1, h2⟩, h3⟩ := h
  have hle : ∀ x y : Fin 32, (!(ltOf cmpS) y x) = decide (keyS x ≤ keyS y) := fun x y => by rw [ltS]; by_cases h : keyS x ≤ keyS y <;> simp [h] <;> omega
  have hs : (((List.range (2 ^ M)).map (Fin.ofNat 32)).mergeSort fun x y => !(ltOf cmpS) y x).Pairwise fun x y => keyS x ≤ keyS y := by
    have := List.pairwise_mergeSort (le := fun x y : Fin 32 => !(ltOf cmpS) y x) (fun a b c g1 g2 => by rw [hle] at *; simp at *; omega) (fun a b => by rw [hle, hle]; simp; omega) ((List.range (2 ^ M)).map (Fin.ofNat 32))
    exact this.imp fun g => by rw [hle] at g; simpa using g
  have he : (((List.range (2 ^ M)).map (Fin.ofNat 32)).mergeSort fun x y => !(ltOf cmpS) y x) = (szL (2 ^ M) (M + 1) 0).map (Fin.ofNat 32) :=
    List.Perm.eq_of_pairwise (le := fun x y => keyS x ≤ keyS y) (fun a b _ _ g1 g2 => by unfold keyS at g1 g2; have := a.isLt; have := b.isLt; exact Fin.ext (by omega)) hs h2 ((List.mergeSort_perm _ _).trans h1)
  rw [he, List.map_map, List.map_map]
  refine List.map_congr_left fun x hx => ?_
  have := of_decide_eq_true (List.all_eq_true.1 h3 x hx)
  simp [encF, Nat.mod_eq_of_lt this]
end Go.Proofs.Ytkcckfpihpfbnaa
