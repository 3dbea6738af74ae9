/-
  Walk of the reference's cut of a text at a byte.
  Conditions: as each theorem says.
-/
import Derived.Test.YtooiobcghobefaaDoorWords
namespace Go.Proofs.YtooiobcghobefaaDoor
open Go.RowKit
set_option linter.unusedVariables false

theorem elemStr : Elem Tryd.prog 56 9 (.string ⟨#[]⟩) 16 := ⟨Tryd.underlying56, by kernel_rfl, rfl, by decide⟩

def cutStep (c : UInt8) (s : List (List UInt8) × List UInt8) (x : UInt8) : List (List UInt8) × List UInt8 := if x = c then (s.1 ++ [s.2], []) else (s.1, s.2 ++ [x])
def cutS (c : UInt8) (l : List UInt8) : List (List UInt8) × List UInt8 := l.foldl (cutStep c) ([], [])
/-- The parts of a text between the bytes c. -/
def partsV (c : UInt8) (l : List UInt8) : List (List UInt8) := (cutS c l).1 ++ [(cutS c l).2]
theorem cutS_yes {c : UInt8} {l : List UInt8} {k : Nat} (h : l[k]? = some c) : cutS c (l.take (k + 1)) = ((cutS c (l.take k)).1 ++ [(cutS c (l.take k)).2], []) := by
  rw [List.take_add_one, h]; simp [cutS, cutStep]
theorem cutS_no {c x : UInt8} {l : List UInt8} {k : Nat} (h : l[k]? = some x) (hx : x ≠ c) : cutS c (l.take (k + 1)) = ((cutS c (l.take k)).1, (cutS c (l.take k)).2 ++ [x]) := by
  rw [List.take_add_one, h]; simp [cutS, cutStep, hx]
theorem cutS_len (c : UInt8) (l : List UInt8) : (cutS c l).1.length + (cutS c l).2.length ≤ l.length := by
  unfold cutS
  have : ∀ (l : List UInt8) (s : List (List UInt8) × List UInt8), (l.foldl (cutStep c) s).1.length + (l.foldl (cutStep c) s).2.length ≤ s.1.length + s.2.length + l.length := by
    intro l
    induction l with
    | nil => intro s; simp
    | cons x r ih =>
      intro s
      have := ih (cutStep c s x)
      have h2 : (cutStep c s x).1.length + (cutStep c s x).2.length ≤ s.1.length + s.2.length + 1 := by unfold cutStep; split <;> simp <;> omega
      simp only [List.foldl_cons, List.length_cons]
      omega
  simpa using this l ([], [])

theorem parts_len (c : UInt8) (l : List UInt8) : ∀ x ∈ partsV c l, x.length ≤ l.length := by
  have : ∀ (l : List UInt8) (s : List (List UInt8) × List UInt8) (m : Nat), (∀ x ∈ s.1, x.length ≤ m) → s.2.length ≤ m → (∀ x ∈ (l.foldl (cutStep c) s).1, x.length ≤ m + l.length) ∧ (l.foldl (cutStep c) s).2.length ≤ m + l.length := by
    intro l
    induction l with
    | nil => intro s m h1 h2; exact ⟨h1, h2⟩
    | cons y r ih =>
      intro s m h1 h2
      have := ih (cutStep c s y) (m + 1) (by
        intro x hx
        unfold cutStep at hx
        split at hx
        · simp at hx; rcases hx with hx | rfl
          · have := h1 x hx; omega
          · omega
        · have := h1 x hx; omega) (by unfold cutStep; split <;> simp; omega)
      simp only [List.foldl_cons, List.length_cons]
      refine ⟨fun x hx => ?_, ?_⟩
      · have := this.1 x hx; omega
      · have := this.2; omega
  intro x hx
  have h := this l ([], []) 0 (by simp) (by simp)
  unfold partsV at hx
  rw [List.mem_append] at hx
  rcases hx with hx | hx
  · have := h.1 x hx; omega
  · simp at hx; subst hx; have := h.2; unfold cutS; omega

set_option maxHeartbeats 1600000 in
set_option maxRecDepth 100000 in
theorem l2cut (l : List UInt8) (c : UInt8) (w : World) (hl : l.length ≤ 1048576) :
    Calls Tryd.prog 38 #[str l, .int .u8 (c.toNat : Int)] w (RetRow 9 w ((partsV c l).map str)) := by
  go_enter Tryd.func38, Tryd.ntmps38
  go_wp2_with fail
  go_loopw [5, 6, 7] (fun s u i wr => ∃ (k N d : Nat) (A' : Option Addr), k ≤ l.length ∧ i = .int .i64 (k : Int) ∧ s = .slice A' N d ∧ u = .string ⟨(cutS c (l.take k)).2.toArray⟩ ∧ wr.ownsRow w.heap.size 9 1 (.slice A' N d) N ((cutS c (l.take k)).1.map str) ∧ Below w.heap.size w wr) (fun _ _ i _ => l.length - (intOf i).toNat)
  case atStart => exact ⟨0, 0, 0, _, by omega, rfl, rfl, rfl, own_start w _, (Below.refl _ _).alloc (Nat.le_refl _) _⟩
  case round =>
    obtain ⟨k, N, d, A', hk, rfl, rfl, rfl, hown, hb⟩ := hrel
    have hN : N ≤ 1048576 := by have := own_len hown; rw [List.length_map] at this; have := cutS_len c (l.take k); rw [List.length_take] at this; omega
    have hcl : (cutS c (l.take k)).2.length ≤ 1048576 := by have := cutS_len c (l.take k); rw [List.length_take] at this; omega
    by_cases hlt : k < l.length
    · obtain ⟨x, hx⟩ : ∃ x, l[k]? = some x := ⟨_, List.getElem?_eq_getElem hlt⟩
      have hxd : l[k] = x := by rw [List.getElem?_eq_getElem hlt] at hx; exact Option.some.inj hx
      by_cases hxc : x = c
      · subst hxc
        have hn := hide (cutS_yes hx)
        replace hx := hide hx
        have hne : ((l[k].toNat : Int) == (x.toNat : Int)) = true := by rw [hxd]; exact beq_self_eq_true _
        have hne2 : (l[k].toNat == x.toNat) = true := by rw [hxd]; exact beq_self_eq_true _
        replace hxd := hide hxd
        go_wp2_with (at_builtin; refine wpList_push elemStr rfl (.tmp 20) (.tmp 22) wr _ rfl w.heap.size (.slice A' N d) N _ rfl rfl hown rfl (by omega) hb.size ?_; intro A' c' w3 hown' hg hat)
        go_roundw
        case rel => exact ⟨k + 1, N + 1, c', A', by omega, by go_num, rfl, by rw [hn.out], by rw [hn.out]; exact own_snoc hown' rfl, below_push hb hb.size hown hg⟩
        case measure => simp [intOf]; omega
      · have hn := hide (cutS_no hx hxc)
        have hne : ((l[k].toNat : Int) == (c.toNat : Int)) = false := by
          rw [hxd, beq_eq_false_iff_ne]; intro h; apply hxc; apply UInt8.toNat_inj.1; omega
        have hne2 : (l[k].toNat == c.toNat) = false := by
          rw [hxd, beq_eq_false_iff_ne]; intro h; apply hxc; apply UInt8.toNat_inj.1; omega
        have hsl : ∀ X : World, (Instr.slice 9 (str l) (some (.int .i64 (k : Int))) (some (.int .i64 ((k : Int) + 1))) none).run Tryd.prog X = .ok (str [x]) X := fun X => by
          have := str_slice (P := Tryd.prog) 9 l .i64 .i64 (k : Int) ((k : Int) + 1) Tryd.underlying9 (by omega) (by omega) (by omega) X
          rw [this]
          congr 2
          rw [show ((k : Int)).toNat = k by omega, show ((k : Int) + 1).toNat - k = 1 by omega]
          rw [List.drop_eq_getElem_cons hlt, List.take_succ_cons, List.take_zero]
          rw [List.getElem?_eq_getElem hlt] at hx
          cases hx; rfl
        have hadd : ∀ X : World, (binOp .add 9 (.string ⟨(cutS c (l.take k)).2.toArray⟩) (str [x])).run Tryd.prog X = .ok (.string ⟨((cutS c (l.take k)).2 ++ [x]).toArray⟩) X := fun X : World => str_add (P := Tryd.prog) 9 (cutS c (l.take k)).2 [x] (by simp; omega) X
        replace hx := hide hx
        replace hxd := hide hxd
        go_wp2_with fail
        go_roundw
        case rel => exact ⟨k + 1, N, d, A', by omega, by go_num, rfl, by rw [hn.out], by rw [hn.out]; exact hown, hb⟩
        case measure => simp [intOf]; omega
    · obtain rfl : k = l.length := by omega
      rw [List.take_of_length_le (Nat.le_refl _)] at hown hcl
      have e := hide (show (partsV c l).map str = (cutS c l).1.map str ++ [str (cutS c l).2] by simp [partsV])
      rw [List.take_of_length_le (Nat.le_refl _)]
      go_wp2_with (at_builtin; refine wpList_push elemStr rfl (.tmp 31) (.tmp 33) wr _ rfl w.heap.size (.slice A' N d) N _ rfl rfl hown rfl (by omega) hb.size ?_; intro A' c' w3 hown' hg hat)
      go_ret
      exact ⟨A', N + 1, c', rfl, by rw [e.out]; exact hown', below_push hb hb.size hown hg⟩
theorem l2cut62 (l : List UInt8) (w : World) (hl : l.length ≤ 1048576) :
    Calls Tryd.prog 38 #[str l, .int .u8 62] w (RetRow 9 w ((partsV 62 l).map str)) := l2cut l 62 w hl
end Go.Proofs.YtooiobcghobefaaDoor
