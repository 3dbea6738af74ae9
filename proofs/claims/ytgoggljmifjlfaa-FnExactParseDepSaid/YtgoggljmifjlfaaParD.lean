/-
  Walks of ParseDep, in the program and in the reference.
  Conditions: as each theorem says.
-/
import Derived.Test.YtgoggljmifjlfaaCut
import Derived.Test.YtgoggljmifjlfaaShelf
import Derived.Test.YtgoggljmifjlfaaParA
import Derived.Test.YtgoggljmifjlfaaDep
import Derived.Test.YtgoggljmifjlfaaFmtD
import Derived.Test.YtgoggljmifjlfaaMem
namespace Go.Proofs.Ytgoggljmifjlfaa
open Go.RowKit
set_option linter.unusedVariables false

def parX (l : List UInt8) : Int := match parA l with | some k => (k : Int) | none => 0
def parOk (l : List UInt8) : Bool := (parA l).isSome
theorem parV_eq (l : List UInt8) : parV l = .tuple #[.int .i64 (parX l), .bool (parOk l)] := by
  unfold parV parX parOk
  cases parA l <;> rfl
def finB (n : Int) (a b : List UInt8) : Bool := (parOk a && parOk b && ((memL (parX b)).length == 1)) && isDepB n (parX a) ((memL (parX b)).headD 0)
def depI (b : Bool) (x : Int) : Int := bif b then x else 0
def retD (b : Bool) (x y : Int) : Value := .tuple #[.agg #[.int .i64 (depI b x), .int .i64 (depI b y)], .bool b]
theorem retD_no (x y : Int) : retD false x y = .tuple #[.agg #[.int .i64 0, .int .i64 0], .bool false] := rfl
theorem retD_yes (x y : Int) : retD true x y = .tuple #[.agg #[.int .i64 x, .int .i64 y], .bool true] := rfl
theorem parA_len {l : List UInt8} (h : parOk l = true) : ∃ k : Nat, k < 32 ∧ parX l = (k : Int) ∧ fmtA (k : Int) = l := by
  unfold parOk at h
  unfold parX
  cases hp : parA l with
  | none => rw [hp] at h; cases h
  | some k =>
    unfold parA at hp
    have h1 := List.find?_some hp
    have h2 := List.mem_of_find?_eq_some hp
    exact ⟨k, by simpa using h2, rfl, by simpa using h1⟩
/-- What the reference's ParseDep answers. -/
def pdV (n : Int) (l : List UInt8) : Value := match partsV 62 l with
  | [a, b] => retD (finB n a b) (parX a) ((memL (parX b)).headD 0)
  | _ => retD false 0 0

set_option maxHeartbeats 1600000 in
set_option maxRecDepth 100000 in
theorem specParD (n : Int) (l : List UInt8) (w : World) (hl : l.length ≤ 1048576) :
    Calls Try.prog 51 #[.int .i64 n, str l] w (RetVal w (pdV n l)) := by
  by_cases hp : (partsV 62 l).length = 2
  · obtain ⟨a, b, hab⟩ : ∃ a b, partsV 62 l = [a, b] := by
      rcases h : partsV 62 l with _ | ⟨a, _ | ⟨b, _ | ⟨c, r⟩⟩⟩
      · rw [h] at hp; cases hp
      · rw [h] at hp; cases hp
      · exact ⟨a, b, rfl⟩
      · rw [h] at hp; simp at hp
    have ha : a.length ≤ 1048576 := by have := parts_len 62 l a (by rw [hab]; simp); omega
    have hb : b.length ≤ 1048576 := by have := parts_len 62 l b (by rw [hab]; simp); omega
    have e := hide (show pdV n l = retD (finB n a b) (parX a) ((memL (parX b)).headD 0) by unfold pdV; rw [hab])
    clear hp
    go_enter Try.func51, Try.ntmps51
    go_wp2_with fail
    refine (l2cut62 l _ hl).mono ?_
    rintro e' w1 ⟨A1, n1, c1, rfl, ho, hb1⟩
    rw [hab] at ho
    obtain rfl : 2 = n1 := by have := own_len ho; simpa using this
    have hr := Reads.of_own ho
    obtain ⟨p0, q0, u0, rfl, _, hu0, hc0⟩ := hr.at_ (show 0 < 2 by omega)
    obtain ⟨p1, q1, u1, e1, _, hu1, hc1⟩ := hr.at_ (show 1 < 2 by omega)
    cases e1
    obtain rfl : str a = u0 := by simpa using hu0
    obtain rfl : str b = u1 := by simpa using hu1
    rw [Nat.add_zero] at hc0
    obtain ⟨hc, hf⟩ := bcell hb1
    replace hr := hide hr
    clear ho hu0 hu1
    go_wp2_with fail
    refine (specPar a _ ha).mono ?_
    rintro e' w2 ⟨rfl, rfl⟩
    rw [parV_eq]
    go_wp2_with fail
    refine (specPar b _ hb).mono ?_
    rintro e' w2 ⟨rfl, rfl⟩
    rw [parV_eq]
    rcases ok1 : parOk a with _ | _
    · have e2 := hide (show pdV n l = .tuple #[.agg #[.int .i64 0, .int .i64 0], .bool false] by rw [e.out]; unfold finB; rw [ok1]; rfl)
      go_wp2_with fail
      refine bodyPost_ret (v := .tuple #[.agg #[.int .i64 0, .int .i64 0], .bool false]) (by simp [results, Try.results51, go_sem, hc]) rfl ?_
      exact ⟨by rw [e2.out], (below_box hb1).trans (by go_grown)⟩
    rcases ok2 : parOk b with _ | _
    · have e2 := hide (show pdV n l = .tuple #[.agg #[.int .i64 0, .int .i64 0], .bool false] by rw [e.out]; unfold finB; rw [ok1, ok2]; rfl)
      go_wp2_with fail
      refine bodyPost_ret (v := .tuple #[.agg #[.int .i64 0, .int .i64 0], .bool false]) (by simp [results, Try.results51, go_sem, hc]) rfl ?_
      exact ⟨by rw [e2.out], (below_box hb1).trans (by go_grown)⟩
    go_wp2_with fail
    refine (specCount (parX b) _).mono ?_
    rintro e' w3 ⟨rfl, hb2⟩
    replace hb2 := below_call hb1 hb2
    clear hc hf hb1 hc0 hc1
    obtain ⟨hc, hf⟩ := bcell hb2
    rcases hcnt : ((memL (parX b)).length == 1) with _ | _
    · have e2 := hide (show pdV n l = .tuple #[.agg #[.int .i64 0, .int .i64 0], .bool false] by rw [e.out]; unfold finB; rw [ok1, ok2, hcnt]; rfl)
      have d1 : (((memL (parX b)).length : Int) != 1) = true := by rw [bne_iff_ne]; rw [beq_eq_false_iff_ne] at hcnt; omega
      go_wp2_with fail
      refine bodyPost_ret (v := .tuple #[.agg #[.int .i64 0, .int .i64 0], .bool false]) (by simp [results, Try.results51, go_sem, hc]) rfl ?_
      exact ⟨by rw [e2.out], (below_box hb2).trans (by go_grown)⟩
    have hone : (memL (parX b)).length = 1 := by simpa using hcnt
    have d1 : (((memL (parX b)).length : Int) != 1) = false := by rw [hone]; rfl
    go_wp2_with fail
    refine (specMem (parX b) _).mono ?_
    rintro e' w4 ⟨A4, n4, c4, rfl, ho4, hb4⟩
    obtain rfl : 1 = n4 := by have := own_len ho4; rw [List.length_map, hone] at this; exact this
    obtain ⟨p2, q2, y, rfl, _, hy, hcy⟩ := at_int (Reads.of_own ho4) (show 0 < 1 by omega)
    rw [Nat.add_zero] at hcy
    have hy0 : (memL (parX b)).headD 0 = y := by
      cases hm : memL (parX b) with
      | nil => rw [hm] at hy; simp at hy
      | cons z r => rw [hm] at hy; simpa using hy
    rw [hy0] at e
    replace hb4 := below_call hb2 hb4
    clear hc hf hb2 ho4 hy
    obtain ⟨hc, hf⟩ := bcell hb4
    go_wp2_with fail
    refine (specDep n (parX a) y _).mono ?_
    rintro e' w5 ⟨rfl, hb5⟩
    obtain ⟨k0, k1, hk, hb6⟩ := box2 hb5
    replace hb6 := below_call hb4 hb6
    clear hc hf hb4 hb5 hcy
    obtain ⟨hc, hf⟩ := bcell hb6
    rcases hd : isDepB n (parX a) y with _ | _
    · have e2 := hide (show pdV n l = .tuple #[.agg #[.int .i64 0, .int .i64 0], .bool false] by rw [e.out]; unfold finB; rw [ok1, ok2, hcnt, hy0, hd]; rfl)
      go_wp2_with fail
      refine bodyPost_ret (v := .tuple #[.agg #[.int .i64 0, .int .i64 0], .bool false]) (by simp [results, Try.results51, go_sem, hc]) rfl ?_
      exact ⟨by rw [e2.out], (below_box hb6).trans (by go_grown)⟩
    · have e2 := hide (show pdV n l = .tuple #[.agg #[.int .i64 (parX a), .int .i64 y], .bool true] by rw [e.out]; unfold finB; rw [ok1, ok2, hcnt, hy0, hd]; rfl)
      go_wp2_with fail
      refine bodyPost_ret (v := .tuple #[.agg #[.int .i64 (parX a), .int .i64 y], .bool true]) (by simp [results, Try.results51, go_sem, hc]) rfl ?_
      exact ⟨by rw [e2.out], (below_box hb6).trans (by go_grown)⟩
  · have e := hide (show pdV n l = .tuple #[.agg #[.int .i64 0, .int .i64 0], .bool false] by
      unfold pdV; split
      · rename_i h; rw [h] at hp; exact absurd rfl hp
      · rfl)
    have d : (((partsV 62 l).length : Int) != 2) = true := by rw [bne_iff_ne]; omega
    go_enter Try.func51, Try.ntmps51
    go_wp2_with fail
    refine (l2cut62 l _ hl).mono ?_
    rintro e' w1 ⟨A1, n1, c1, rfl, ho, hb1⟩
    obtain rfl : (partsV 62 l).length = n1 := by have := own_len ho; simpa using this
    obtain ⟨hc, hf⟩ := bcell hb1
    clear ho
    go_wp2_with fail
    refine bodyPost_ret (v := .tuple #[.agg #[.int .i64 0, .int .i64 0], .bool false]) (by simp [results, Try.results51, go_sem, hc]) rfl ?_
    exact ⟨by rw [e.out], (below_box hb1).trans (by go_grown)⟩
/-- The text at the first byte '>', as strings.Cut hands it back. -/
def cutA (l : List UInt8) : List UInt8 := (Lib.cut l [62]).1
def cutB (l : List UInt8) : List UInt8 := (Lib.cut l [62]).2.1
theorem cut_le (l : List UInt8) : (cutA l).length ≤ l.length ∧ (cutB l).length ≤ l.length := by
  unfold cutA cutB Lib.cut
  split
  · refine ⟨?_, ?_⟩
    · simp only [List.length_take]; omega
    · simp only [List.length_drop]; omega
  · simp
def idB (n : Int) (l : List UInt8) : Bool := finB n (cutA l) (cutB l) && (fmtD (parX (cutA l)) ((memL (parX (cutB l))).headD 0) == l)
/-- What the program's ParseDep answers. -/
def idV (n : Int) (l : List UInt8) : Value := retD (idB n l) (parX (cutA l)) ((memL (parX (cutB l))).headD 0)
theorem fmtD_len (l r : Int) : (fmtD l r).length ≤ 11 := by
  unfold fmtD
  split
  · have := fmtA_len l; have := fmtA_len (2 ^ r.toNat); simp; omega
  · simp
set_option maxHeartbeats 1600000 in
set_option maxRecDepth 100000 in
theorem implParD (n : Int) (l : List UInt8) (M : Int) (w : World) (hl : l.length ≤ 1048576) (hM : w.cell? ⟨0, 0, none⟩ = some (.int .i64 M)) (h0 : 0 < w.heap.size) :
    Calls Try.prog 52 #[.int .i64 n, str l] w (RetVal w (idV n l)) := by
  have ha : (cutA l).length ≤ 1048576 := by have := (cut_le l).1; omega
  have hb : (cutB l).length ≤ 1048576 := by have := (cut_le l).2; omega
  have e := hide (show idV n l = retD (finB n (cutA l) (cutB l) && (fmtD (parX (cutA l)) ((memL (parX (cutB l))).headD 0) == l)) (parX (cutA l)) ((memL (parX (cutB l))).headD 0) from rfl)
  have hcut : ∀ (W : World), W.cell? ⟨0, 0, none⟩ = some (.int .i64 M) → Calls Try.prog 74 #[str l, .string ⟨#[62]⟩] W fun e w' => e = .returned (.tuple #[str (cutA l), str (cutB l), .bool (Lib.cut l [62]).2.2]) ∧ ∃ n, w' = W.drewN n := fun W hW =>
    Try.strings_Cut ⟨l.toArray⟩ ⟨#[62]⟩ M W (by rw [size_str]; omega) hW
  have hM2 : ∀ o, (w.alloc o).cell? ⟨0, 0, none⟩ = some (.int .i64 M) := fun o => by rw [World.cell?_alloc_lt w o _ h0]; exact hM
  replace hcut := hide hcut
  replace hM2 := hide hM2
  clear hM
  go_enter Try.func52, Try.ntmps52
  go_wp2_with fail
  refine (hcut.out _ (hM2.out _)).mono ?_
  rintro e' w1 ⟨rfl, z, hw1⟩
  have hb1 : Below (w.alloc (.cells #[.int .i64 0, .int .i64 0] 40)).heap.size (w.alloc (.cells #[.int .i64 0, .int .i64 0] 40)) w1 := by rw [hw1]; exact below_drewN (Below.refl _ _) z
  clear hw1
  go_wp2_with fail
  refine (implPar (cutA l) _ ha).mono ?_
  rintro e' w2 ⟨rfl, hb2⟩
  rw [parV_eq]
  replace hb1 := below_call hb1 hb2
  clear hb2
  go_wp2_with fail
  refine (implPar (cutB l) _ hb).mono ?_
  rintro e' w3 ⟨rfl, hb2⟩
  rw [parV_eq]
  replace hb1 := below_call hb1 hb2
  clear hb2
  obtain ⟨hc, hf⟩ := bcell hb1
  rcases ok1 : parOk (cutA l) with _ | _
  · have e2 := hide (show idV n l = .tuple #[.agg #[.int .i64 0, .int .i64 0], .bool false] by rw [e.out]; unfold finB; rw [ok1]; rfl)
    go_wp2_with fail
    refine bodyPost_ret (v := .tuple #[.agg #[.int .i64 0, .int .i64 0], .bool false]) (by simp [results, Try.results52, go_sem, hc]) rfl ?_
    exact ⟨by rw [e2.out], (below_box hb1).trans (by go_grown)⟩
  rcases ok2 : parOk (cutB l) with _ | _
  · have e2 := hide (show idV n l = .tuple #[.agg #[.int .i64 0, .int .i64 0], .bool false] by rw [e.out]; unfold finB; rw [ok1, ok2]; rfl)
    go_wp2_with fail
    refine bodyPost_ret (v := .tuple #[.agg #[.int .i64 0, .int .i64 0], .bool false]) (by simp [results, Try.results52, go_sem, hc]) rfl ?_
    exact ⟨by rw [e2.out], (below_box hb1).trans (by go_grown)⟩
  go_wp2_with fail
  refine (implCount (parX (cutB l)) _).mono ?_
  rintro e' w4 ⟨rfl, hb2⟩
  replace hb1 := below_call hb1 hb2
  clear hc hf hb2
  obtain ⟨hc, hf⟩ := bcell hb1
  rcases hcnt : ((memL (parX (cutB l))).length == 1) with _ | _
  · have d1 : (((memL (parX (cutB l))).length : Int) != 1) = true := by rw [bne_iff_ne]; rw [beq_eq_false_iff_ne] at hcnt; omega
    have e2 := hide (show idV n l = .tuple #[.agg #[.int .i64 0, .int .i64 0], .bool false] by rw [e.out]; unfold finB; rw [ok1, ok2, hcnt]; rfl)
    go_wp2_with fail
    refine bodyPost_ret (v := .tuple #[.agg #[.int .i64 0, .int .i64 0], .bool false]) (by simp [results, Try.results52, go_sem, hc]) rfl ?_
    exact ⟨by rw [e2.out], (below_box hb1).trans (by go_grown)⟩
  have hone : (memL (parX (cutB l))).length = 1 := by simpa using hcnt
  have d1 : (((memL (parX (cutB l))).length : Int) != 1) = false := by rw [hone]; rfl
  go_wp2_with fail
  refine (implMem (parX (cutB l)) _).mono ?_
  rintro e' w5 ⟨A4, n4, c4, rfl, ho4, hb4⟩
  obtain rfl : 1 = n4 := by have := own_len ho4; rw [List.length_map, hone] at this; exact this
  obtain ⟨p2, q2, y, rfl, _, hy, hcy⟩ := at_int (Reads.of_own ho4) (show 0 < 1 by omega)
  rw [Nat.add_zero] at hcy
  have hy0 : (memL (parX (cutB l))).headD 0 = y := by
    cases hm : memL (parX (cutB l)) with
    | nil => rw [hm] at hy; simp at hy
    | cons z r => rw [hm] at hy; simpa using hy
  rw [hy0] at e
  replace hb1 := below_call hb1 hb4
  clear hc hf hb4 ho4 hy
  obtain ⟨hc, hf⟩ := bcell hb1
  go_wp2_with fail
  refine (implDep n (parX (cutA l)) y _).mono ?_
  rintro e' w6 ⟨rfl, hb5⟩
  obtain ⟨k0, k1, hk, hb6⟩ := box2 hb5
  replace hb1 := below_call hb1 hb6
  clear hc hf hb6 hb5 hcy
  obtain ⟨hc, hf⟩ := bcell hb1
  rcases hd : isDepB n (parX (cutA l)) y with _ | _
  · have e2 := hide (show idV n l = .tuple #[.agg #[.int .i64 0, .int .i64 0], .bool false] by rw [e.out]; unfold finB; rw [ok1, ok2, hcnt, hy0, hd]; rfl)
    go_wp2_with fail
    refine bodyPost_ret (v := .tuple #[.agg #[.int .i64 0, .int .i64 0], .bool false]) (by simp [results, Try.results52, go_sem, hc]) rfl ?_
    exact ⟨by rw [e2.out], (below_box hb1).trans (by go_grown)⟩
  go_wp2_with fail
  refine (implFmtD (parX (cutA l)) y _).mono ?_
  rintro e' w7 ⟨rfl, hb7⟩
  replace k0 := cell_below hb7 k0 hk
  replace k1 := cell_below hb7 k1 hk
  replace hb1 := below_call hb1 hb7
  clear hc hf hb7
  obtain ⟨hc, hf⟩ := bcell hb1
  rcases hfm : (fmtD (parX (cutA l)) y == l) with _ | _
  · have e2 := hide (show idV n l = .tuple #[.agg #[.int .i64 0, .int .i64 0], .bool false] by rw [e.out]; unfold finB; rw [ok1, ok2, hcnt, hy0, hd, hfm]; rfl)
    go_wp2_with fail
    refine bodyPost_ret (v := .tuple #[.agg #[.int .i64 0, .int .i64 0], .bool false]) (by simp [results, Try.results52, go_sem, hc]) rfl ?_
    exact ⟨by rw [e2.out], (below_box hb1).trans (by go_grown)⟩
  · have e2 := hide (show idV n l = .tuple #[.agg #[.int .i64 (parX (cutA l)), .int .i64 y], .bool true] by rw [e.out]; unfold finB; rw [ok1, ok2, hcnt, hy0, hd, hfm]; rfl)
    go_wp2_with fail
    refine bodyPost_ret (v := .tuple #[.agg #[.int .i64 (parX (cutA l)), .int .i64 y], .bool true]) (by simp [results, Try.results52, go_sem, hc]) rfl ?_
    exact ⟨by rw [e2.out], (below_box hb1).trans (by go_grown)⟩

/-! ### They answer alike -/
theorem ib_no {c : UInt8} : ∀ {l : List UInt8}, c ∉ l → Lib.indexByte l c = -1
  | [], _ => rfl
  | x :: l, h => by
    have h1 : ¬ x = c := fun e => h (by simp [e])
    have h2 := ib_no (l := l) (c := c) (fun m => h (by simp [m]))
    simp [Lib.indexByte, h1, h2]
theorem ib_at {c : UInt8} {b : List UInt8} : ∀ {a : List UInt8}, c ∉ a → Lib.indexByte (a ++ c :: b) c = a.length
  | [], _ => by simp [Lib.indexByte]
  | x :: a, h => by
    have h1 : ¬ x = c := fun e => h (by simp [e])
    have h2 := ib_at (a := a) (b := b) (c := c) (fun m => h (by simp [m]))
    have h3 : ¬ ((a.length : Int) = -1) := by omega
    simp [Lib.indexByte, h1, h2, h3]
theorem cut_no {l : List UInt8} (h : 62 ∉ l) : cutA l = l ∧ cutB l = [] := by
  unfold cutA cutB Lib.cut
  rw [Lib.index_one, ib_no h]
  simp
theorem cut_at {a b : List UInt8} (h : 62 ∉ a) : cutA (a ++ 62 :: b) = a ∧ cutB (a ++ 62 :: b) = b := by
  unfold cutA cutB Lib.cut
  rw [Lib.index_one, ib_at h]
  simp
theorem fold_free {c : UInt8} : ∀ (a : List UInt8) (ps : List (List UInt8)) (u : List UInt8), c ∉ a → a.foldl (cutStep c) (ps, u) = (ps, u ++ a)
  | [], ps, u, _ => by simp
  | x :: a, ps, u, h => by
    have h1 : ¬ x = c := fun e => h (by simp [e])
    have e : cutStep c (ps, u) x = (ps, u ++ [x]) := if_neg h1
    rw [List.foldl_cons, e, fold_free a ps (u ++ [x]) (fun m => h (List.mem_cons_of_mem _ m))]
    simp
theorem fold_more {c : UInt8} : ∀ (a : List UInt8) (s : List (List UInt8) × List UInt8), s.1.length ≤ (a.foldl (cutStep c) s).1.length
  | [], s => by simp
  | x :: a, s => by
    rw [List.foldl_cons]
    have := fold_more (c := c) a (cutStep c s x)
    have h2 : s.1.length ≤ (cutStep c s x).1.length := by unfold cutStep; split <;> simp
    omega
theorem fold_at {c : UInt8} {a b : List UInt8} {ps : List (List UInt8)} (h : c ∉ a) : (a ++ c :: b).foldl (cutStep c) (ps, []) = b.foldl (cutStep c) (ps ++ [a], []) := by
  rw [List.foldl_append, fold_free a ps [] h, List.foldl_cons]
  simp [cutStep]
theorem fmt_no62 : ((List.range 32).all fun k => !(fmtA (k : Int)).contains 62) = true := by decide +kernel
theorem fmt_one : ((List.range 32).all fun k => !((memL (k : Int)).length == 1) || (decide (0 ≤ (memL (k : Int)).headD 0) && decide ((memL (k : Int)).headD 0 ≤ 4) && ((2 : Int) ^ ((memL (k : Int)).headD 0).toNat == (k : Int)) && validB (k : Int))) = true := by decide +kernel
theorem fmt_valid : ((List.range 32).all fun k => validB (k : Int)) = true := by decide +kernel
theorem parOk_nil : parOk [] = false := by
  cases h : parOk [] with
  | false => rfl
  | true =>
    obtain ⟨k, hk, _, hf⟩ := parA_len h
    have hv := List.all_eq_true.1 fmt_valid k (List.mem_range.2 hk)
    exact absurd hf (fmtA_ne _ hv)
theorem parOk_62 {b : List UInt8} (hb : 62 ∈ b) : parOk b = false := by
  cases h : parOk b with
  | false => rfl
  | true =>
    obtain ⟨k, hk, _, hf⟩ := parA_len h
    have hv := List.all_eq_true.1 fmt_no62 k (List.mem_range.2 hk)
    rw [hf] at hv
    simp [hb] at hv
theorem fin_fmt {n : Int} {a b : List UInt8} (h : finB n a b = true) : fmtD (parX a) ((memL (parX b)).headD 0) = a ++ 62 :: b := by
  unfold finB at h
  simp only [Bool.and_eq_true] at h
  obtain ⟨⟨⟨h1, h2⟩, h3⟩, _⟩ := h
  obtain ⟨k, hk, e1, f1⟩ := parA_len h1
  obtain ⟨j, hj, e2, f2⟩ := parA_len h2
  have hv := List.all_eq_true.1 fmt_valid k (List.mem_range.2 hk)
  have ho := List.all_eq_true.1 fmt_one j (List.mem_range.2 hj)
  rw [e2] at h3
  rw [e1, e2]
  simp only [h3, Bool.not_true, Bool.false_or, Bool.and_eq_true, decide_eq_true_eq, beq_iff_eq] at ho
  obtain ⟨⟨⟨g1, g2⟩, g3⟩, _⟩ := ho
  rw [fmtD_yes ⟨hv, g1, g2⟩, g3, f1, f2]
theorem pd_eq (n : Int) (l : List UInt8) : idV n l = pdV n l := by
  by_cases h : 62 ∈ l
  · obtain ⟨a, b, rfl, ha⟩ := List.eq_append_cons_of_mem h
    obtain ⟨c1, c2⟩ := cut_at (b := b) ha
    by_cases hb : 62 ∈ b
    · obtain ⟨a2, b2, rfl, ha2⟩ := List.eq_append_cons_of_mem hb
      have e1 : idV n (a ++ 62 :: (a2 ++ 62 :: b2)) = retD false 0 0 := by
        unfold idV idB finB
        rw [c2, parOk_62 hb]
        simp [retD, depI]
      have hlen : 3 ≤ (partsV 62 (a ++ 62 :: (a2 ++ 62 :: b2))).length := by
        unfold partsV cutS
        rw [fold_at ha, fold_at ha2]
        have := fold_more (c := 62) b2 ([] ++ [a] ++ [a2], [])
        simp at this ⊢
        omega
      rw [e1]
      unfold pdV
      split
      · rename_i x y hp; rw [hp] at hlen; simp at hlen
      · rfl
    · have hp : partsV 62 (a ++ 62 :: b) = [a, b] := by
        unfold partsV cutS
        rw [fold_at ha, fold_free _ _ _ hb]; simp
      unfold pdV
      rw [hp]
      show retD (idB n (a ++ 62 :: b)) _ _ = retD (finB n a b) (parX a) ((memL (parX b)).headD 0)
      unfold idB
      rw [c1, c2]
      cases hf : finB n a b with
      | false => rfl
      | true => rw [fin_fmt hf, beq_self_eq_true]; rfl
  · obtain ⟨c1, c2⟩ := cut_no h
    have hp : partsV 62 l = [l] := by
      unfold partsV cutS
      rw [fold_free _ _ _ h]; simp
    unfold pdV
    rw [hp]
    unfold idV idB finB
    rw [c1, c2, parOk_nil]
    simp [retD, depI]
end Go.Proofs.Ytgoggljmifjlfaa
