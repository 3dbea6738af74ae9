/-
  PartsBySize: the walks.
  Conditions: as each theorem says.
-/
import Derived.Test.YtkcckfpihpfbnaaBySize
namespace Go.Proofs.Ytkcckfpihpfbnaa
open Go.RowKit
set_option linter.unusedVariables false

theorem bang_atG {α : Type} [Inhabited α] {zs : List α} {j : Nat} (h : j < zs.length) : zs.toArray[j]! = zs[j] := by
  rw [getElem!_pos _ j (by simpa using h)]; simp
theorem own_putRowG {α : Type} [Inhabited α] (enc : α → Value) {w : World} {B E g n c : Nat} {xs : List Value} (h : w.ownsRow B E 1 (.slice (some ⟨g, 0, none⟩) n c) n xs) (ds : List α) (hd : ds.length = n) (q : Nat) (os : Array Obj) :
    (Go.Sort.grow (Go.Sort.putRow enc (Go.Sort.ahead w q) g 0 ds.toArray) os).ownsRow B E 1 (.slice (some ⟨g, 0, none⟩) n c) n (ds.map enc) := by
  obtain ⟨hl, hcase⟩ := h
  rcases hcase with ⟨hv, _⟩ | ⟨g', cap, cur, hv, hb, hg, hnc, hcm, hcs, htk⟩
  · cases hv
  cases hv
  have hlt : g < w.heap.size := (Array.getElem?_eq_some_iff.1 hg).1
  refine ⟨by rw [List.length_map, hd, Nat.mul_one], .inr ⟨g, c, Go.Sort.putCells enc 0 ds.toArray cur, rfl, hb, ?_, hnc, hcm, ?_, ?_⟩⟩
  · unfold Go.Sort.grow Go.Sort.putRow Go.Sort.mapBlock Go.Sort.ahead
    rw [Array.getElem?_append_left (by simpa using hlt), Array.getElem?_modify, if_pos rfl, hg]
    rfl
  · unfold Go.Sort.putCells
    rw [Array.size_mapIdx]; exact hcs
  · apply List.ext_getElem?
    intro k
    rw [List.getElem?_take, List.getElem?_map, Array.getElem?_toList]
    by_cases hk : k < n
    · have hkc : k < cur.size := by omega
      unfold Go.Sort.putCells
      rw [if_pos (by omega), Array.getElem?_mapIdx, Array.getElem?_eq_getElem hkc, Option.map_some, if_pos (by simp; omega), List.getElem?_eq_getElem (by omega), Option.map_some, Nat.sub_zero, bang_atG (by omega)]
    · rw [if_neg (by omega), List.getElem?_eq_none (by omega)]
      rfl
theorem below_putRowG {α : Type} [Inhabited α] (enc : α → Value) {B : Nat} {a w : World} (hb : Below B a w) {g : Nat} (hg : B ≤ g) (o q : Nat) (ds : Array α) (os : Array Obj) (hB : B ≤ w.heap.size) :
    Below B a (Go.Sort.grow (Go.Sort.putRow enc (Go.Sort.ahead w q) g o ds) os) := by
  refine hb.trans ⟨rfl, rfl, rfl, ?_, ?_⟩
  · unfold Go.Sort.grow Go.Sort.putRow Go.Sort.mapBlock Go.Sort.ahead
    simp
  · intro k hk
    unfold Go.Sort.grow Go.Sort.putRow Go.Sort.mapBlock Go.Sort.ahead
    rw [Array.getElem?_append_left (by simp; omega), Array.getElem?_modify, if_neg (by omega)]
theorem own_holdsG {α : Type} [Inhabited α] (enc : α → Value) {w : World} {B E g n c : Nat} {xs : List α} (h : w.ownsRow B E 1 (.slice (some ⟨g, 0, none⟩) n c) n (xs.map enc)) : Go.Sort.Holds enc w g 0 xs.toArray := by
  intro j hj
  have hl := own_len h
  rw [List.length_map] at hl
  have hj' : j < xs.length := by simpa using hj
  rw [Nat.zero_add, bang_atG hj']
  exact ⟨by rw [h.cellAt j (by omega), List.getElem?_map, List.getElem?_eq_getElem hj']; rfl, h.frozenAt j⟩
theorem all_natP (M : Nat) (w : World) (h : M ≤ 5) : Calls Try.prog 84 #[.int .i64 (M : Int)] w fun e w' => e = .returned (.int .i64 (((2 ^ M : Nat) : Int) - 1)) ∧ w = w' := by
  have := all_any (M : Int) w (by omega)
  rw [show ((M : Int)).toNat = M by simp, show (2 : Int) ^ M = ((2 ^ M : Nat) : Int) by norm_cast] at this
  exact this
theorem kwrap_pow5P (k : Nat) (hk : k ≤ 5) : IntKind.i64.wrap ((2 : Int) ^ k) = ((2 ^ k : Nat) : Int) := by
  have : k = 0 ∨ k = 1 ∨ k = 2 ∨ k = 3 ∨ k = 4 ∨ k = 5 := by omega
  rcases this with rfl | rfl | rfl | rfl | rfl | rfl <;> decide +kernel
theorem szL_len (P s x : Nat) : (szL P s x).length ≤ P * s + x := by
  unfold szL
  rw [List.length_append, List.length_flatMap]
  have h1 : ∀ l : List Nat, (l.map fun s' => ((List.range P).filter fun y => pcN y == s').length).sum ≤ P * l.length := by
    intro l
    induction l with
    | nil => simp
    | cons a l ih =>
      rw [List.map_cons, List.sum_cons, List.length_cons, Nat.mul_succ]
      have := List.length_filter_le (fun y => pcN y == a) (List.range P)
      rw [List.length_range] at this
      omega
  have h2 := h1 (List.range s)
  have h3 := List.length_filter_le (fun y => pcN y == s) (List.range x)
  rw [List.length_range] at h2 h3
  omega
theorem partsL_len (n : Int) : (partsL n).length ≤ 200 := by
  unfold partsL
  split
  · rename_i h
    rw [List.length_map]
    have h1 := szL_len (2 ^ n.toNat) (n.toNat + 1) 0
    have h2 : (2 : Nat) ^ n.toNat ≤ 2 ^ 5 := Nat.pow_le_pow_right (by omega) (by omega)
    have h3 : 2 ^ n.toNat * (n.toNat + 1) ≤ 2 ^ 5 * 6 := Nat.mul_le_mul h2 (by omega)
    omega
  · simp
set_option maxHeartbeats 1600000 in
set_option maxRecDepth 100000 in
theorem specParts (n : Int) (w : World) : Calls Try.prog 52 #[.int .i64 n] w (RetRow 3 w ((partsL n).map (Value.int .i64))) := by
  by_cases hg : 0 ≤ n ∧ n ≤ 5
  · obtain ⟨M, rfl⟩ : ∃ M : Nat, n = M := ⟨n.toNat, by omega⟩
    have hM5 : M ≤ 5 := by omega
    have hfin := hide (show partsL M = (szL (2 ^ M) (M + 1) 0).map Int.ofNat by unfold partsL; rw [if_pos hg]; simp)
    have h2M : (2 : Nat) ^ M ≤ 2 ^ 5 := Nat.pow_le_pow_right (by omega) hM5
    have hin := hide (show (decide ((0 : Int) ≤ (M : Int)) && decide ((M : Int) ≤ 5)) = true by simp; omega)
    have hall := fun W => all_natP M W hM5
    obtain ⟨P, hP⟩ : ∃ P, P = (2 : Nat) ^ M := ⟨_, rfl⟩
    rw [← hP] at hfin hall h2M
    replace hall := hide hall
    replace hP := hide hP
    clear hg
    go_enter Try.func52, Try.ntmps52
    go_wp2_with fail
    go_loopw [3, 4, 5] (fun out s _ wr => ∃ (k N d : Nat) (A' : Option Addr), k ≤ M + 1 ∧ s = .int .i64 (k : Int) ∧ out = .slice A' N d ∧ wr.ownsRow w.heap.size 3 1 (.slice A' N d) N (((szL P k 0).map Int.ofNat).map (Value.int .i64)) ∧ Below w.heap.size w wr) (fun _ s _ _ => M + 1 - (intOf s).toNat)
    case atStart => exact ⟨0, 0, 0, _, by omega, rfl, rfl, own_start w _, (Below.refl _ _).alloc (Nat.le_refl _) _⟩
    case round =>
      obtain ⟨k, N, d, A', hk, rfl, rfl, hown, hb⟩ := hrel
      by_cases hlt : k ≤ M
      · have d0 : decide ((k : Int) ≤ (M : Int)) = true := by simp; omega
        have d0' : decide (k ≤ M) = true := by simp; omega
        go_wp2_with (go_at_call 83; refine (l1in _ _ _ true _ hin.out).mono ?_; rintro e w2 ⟨rfl, rfl⟩)
        go_loopw [3, 5] (fun out x wq => ∃ (q N d : Nat) (A' : Option Addr), q ≤ P ∧ x = .int .i64 (q : Int) ∧ out = .slice A' N d ∧ wq.ownsRow w.heap.size 3 1 (.slice A' N d) N (((szL P k q).map Int.ofNat).map (Value.int .i64)) ∧ Below w.heap.size w wq) (fun _ x _ => P - (intOf x).toNat)
        case atStart => exact ⟨0, N, d, A', by omega, rfl, rfl, hown, hb⟩
        case round =>
          clear hown hb
          obtain ⟨q, N, d, A', hq, rfl, rfl, hown, hb⟩ := hrel
          have hN : N ≤ 1000 := by
            have h1 := own_len hown
            have h2 := szL_len P k q
            have h3 : P * k ≤ 2 ^ 5 * 6 := Nat.mul_le_mul h2M (by omega)
            rw [List.length_map, List.length_map] at h1
            omega
          by_cases hql : q < P
          · have d1 : decide ((q : Int) ≤ (P : Int) - 1) = true := by simp; omega
            have hcnt : (memL (q : Int)).length = pcN q := rfl
            by_cases hc : pcN q = k
            · have d2 : ((pcN q : Int) == (k : Int)) = true := by simp; omega
              have hstep := hide (szL_yes (P := P) hc)
              generalize pcN q = z at hcnt d2 hc
              replace hcnt := hide hcnt
              replace hc := hide hc
              go_wp2_with (go_at_call 84; refine (hall.out _).mono ?_; rintro e w2 ⟨rfl, rfl⟩)
              refine (specCount _ _).mono ?_
              rintro e w3 ⟨rfl, hb1⟩
              rw [hcnt.out]
              replace hown := own_below hown hb1
              replace hb := below_call hb hb1
              clear hb1
              go_wp2_with (at_builtin; refine wpList_push elemInt rfl (.tmp 26) (.tmp 28) w3 (.int .i64 (q : Int)) rfl w.heap.size (.slice A' N d) N _ rfl rfl hown rfl (by omega) hb.size ?_; intro A2 c2 w4 hown2 hg2 hat2; have hb2 := below_push hb hb.size hown hg2)
              go_roundw
              case rel => exact ⟨q + 1, N + 1, c2, A2, by omega, by go_num, rfl, by rw [hstep.out, List.map_append, List.map_append]; exact hown2, hb2⟩
              case measure => simp [intOf]; omega
            · have d2 : ((pcN q : Int) == (k : Int)) = false := by simp; omega
              have hstep := hide (szL_no (P := P) hc)
              generalize pcN q = z at hcnt d2 hc
              replace hcnt := hide hcnt
              replace hc := hide hc
              go_wp2_with (go_at_call 84; refine (hall.out _).mono ?_; rintro e w2 ⟨rfl, rfl⟩)
              refine (specCount _ _).mono ?_
              rintro e w3 ⟨rfl, hb1⟩
              rw [hcnt.out]
              replace hown := own_below hown hb1
              replace hb := below_call hb hb1
              clear hb1
              go_wp2_with fail
              go_roundw
              case rel => exact ⟨q + 1, N, d, A', by omega, by go_num, rfl, by rw [hstep.out]; exact hown, hb⟩
              case measure => simp [intOf]; omega
          · obtain rfl : q = P := by omega
            have d1 : decide ((q : Int) ≤ (q : Int) - 1) = false := by simp; omega
            have hnx := hide (szL_next q k)
            go_wp2_with (go_at_call 84; refine (hall.out _).mono ?_; rintro e w2 ⟨rfl, rfl⟩)
            go_roundw
            case rel => exact ⟨k + 1, N, d, A', by omega, by go_num, rfl, by rw [hnx.out]; exact hown, hb⟩
            case measure => simp [intOf]; omega
      · obtain rfl : k = M + 1 := by omega
        have d0 : decide (((M + 1 : Nat) : Int) ≤ (M : Int)) = false := by simp; omega
        have d0' : decide (M + 1 ≤ M) = false := by simp
        go_wp2_with fail
        go_ret
        exact ⟨A', N, d, rfl, by rw [hfin.out]; exact hown, hb⟩
  · have hfin := hide (show partsL n = [] by unfold partsL; rw [if_neg hg])
    by_cases h0 : 0 ≤ n
    · have hin := hide (show (decide ((0 : Int) ≤ n) && decide (n ≤ 5)) = false by simp; omega)
      have d0 : decide ((0 : Int) ≤ n) = true := by simpa using h0
      clear hg
      go_enter Try.func52, Try.ntmps52
      go_wp2_with fail
      refine wp_loop_rounds 1 ?_
      rw [rounds_succ]
      go_wp2_with (go_at_call 83; refine (l1in _ _ _ false _ hin.out).mono ?_; rintro e w2 ⟨rfl, rfl⟩)
      go_ret
      exact ⟨_, 0, 0, rfl, by rw [hfin.out]; exact own_start w _, (Below.refl _ _).alloc (Nat.le_refl _) _⟩
    · have d0 : decide ((0 : Int) ≤ n) = false := by simpa using h0
      clear hg
      go_enter Try.func52, Try.ntmps52
      go_wp2_with fail
      refine wp_loop_rounds 1 ?_
      rw [rounds_succ]
      go_wp2_with fail
      go_ret
      exact ⟨_, 0, 0, rfl, by rw [hfin.out]; exact own_start w _, (Below.refl _ _).alloc (Nat.le_refl _) _⟩
end Go.Proofs.Ytkcckfpihpfbnaa
