/-
  Rows sorted by slices.SortFunc with slices.Compare.
  Conditions: as each theorem says.
-/
import Derived.Test.YtooiobcghobefaaGreatDoorPrjP
import Derived.Test.YtooiobcghobefaaGreatDoorRowsU
import Derived.Shelf.SlSortCmp.NoneTotal
import Derived.Shelf.Lay
import Derived.Ground.SlsfProg
namespace Go.Proofs
open Go.Shelf
shelf_lay_g SlLaysF.n6 Slsf 6 at Tryz 40 as Tryz.sortL
end Go.Proofs
namespace Go.Proofs.YtooiobcghobefaaGreatDoor
open Go.RowKit Go.Shelf Go.Sort
set_option linter.unusedVariables false

theorem cmpZ_drop : ∀ (k : Nat) (x y : List Int), x.take k = y.take k → k ≤ x.length → k ≤ y.length → cmpZ x y = cmpZ (x.drop k) (y.drop k)
  | 0, x, y, _, _, _ => rfl
  | k + 1, [], y, _, h, _ => by simp at h
  | k + 1, a :: x, [], _, _, h => by simp at h
  | k + 1, a :: x, b :: y, h, h1, h2 => by
    rw [List.take_succ_cons, List.take_succ_cons] at h
    injection h with e1 e2
    subst e1
    rw [cmpZ, if_neg (by omega), if_neg (by omega), List.drop_succ_cons, List.drop_succ_cons]
    exact cmpZ_drop k x y e2 (by simpa using h1) (by simpa using h2)
set_option maxRecDepth 100000 in
theorem nanI (x : Int) (w : World) : Calls Tryz.prog 83 #[.int .i64 x] w fun e w' => e = .returned (.bool false) ∧ w = w' := by
  have h : (x != x) = false := by simp
  go_enter Tryz.func83, Tryz.ntmps83
  go_wp2_with fail
  go_ret
  exact ⟨rfl, rfl⟩
def cmpI (a b : Int) : Int := if a < b then -1 else if b < a then 1 else 0
set_option maxRecDepth 100000 in
theorem compareI (a b : Int) (w : World) : Calls Tryz.prog 63 #[.int .i64 a, .int .i64 b] w fun e w' => e = .returned (.int .i64 (cmpI a b)) ∧ w = w' := by
  by_cases h1 : a < b
  · have e := hide (show cmpI a b = -1 from if_pos h1)
    have d1 : decide (a < b) = true := by simpa using h1
    go_enter Tryz.func63, Tryz.ntmps63
    go_wp2_with (go_at_call 83; refine (nanI _ _).mono ?_; rintro e w1 ⟨rfl, rfl⟩)
    go_ret
    exact ⟨ret_int e.out.symm, rfl⟩
  · have d1 : decide (a < b) = false := by simpa using h1
    by_cases h2 : b < a
    · have e := hide (show cmpI a b = 1 by unfold cmpI; rw [if_neg h1, if_pos h2])
      have d2 : decide (b < a) = true := by simpa using h2
      go_enter Tryz.func63, Tryz.ntmps63
      go_wp2_with (go_at_call 83; refine (nanI _ _).mono ?_; rintro e w1 ⟨rfl, rfl⟩)
      go_ret
      exact ⟨ret_int e.out.symm, rfl⟩
    · have e := hide (show cmpI a b = 0 by unfold cmpI; rw [if_neg h1, if_neg h2])
      have d2 : decide (b < a) = false := by simpa using h2
      go_enter Tryz.func63, Tryz.ntmps63
      go_wp2_with (go_at_call 83; refine (nanI _ _).mono ?_; rintro e w1 ⟨rfl, rfl⟩)
      go_ret
      exact ⟨ret_int e.out.symm, rfl⟩
set_option maxHeartbeats 800000 in
set_option maxRecDepth 100000 in
theorem compareL (A B : Option Addr) (n c m d : Nat) (xs ys : List Int) (w : World) (hx : Reads w w.heap.size A n (xs.map (Value.int .i64))) (hy : Reads w w.heap.size B m (ys.map (Value.int .i64))) :
    Calls Tryz.prog 41 #[.slice A n c, .slice B m d] w fun e w' => e = .returned (.int .i64 (cmpZ xs ys)) ∧ w = w' := by
  have hn := hx.bound
  have hm := hy.bound
  have lx := ints_len hx
  have ly := ints_len hy
  have hd := hide (cmpZ_drop (x := xs) (y := ys))
  go_enter Tryz.func41, Tryz.ntmps41
  go_wp2_with fail
  go_loopw [11] (fun i wr => ∃ k : Nat, i = .int .i64 (k : Int) ∧ k ≤ n ∧ k ≤ m ∧ xs.take k = ys.take k ∧ w = wr) (fun i _ => n - (intOf i).toNat)
  case atStart => exact ⟨0, rfl, by omega, by omega, by simp, rfl⟩
  case round =>
    obtain ⟨k, rfl, hk, hkm, ht, rfl⟩ := hrel
    have hz := hd.out k ht (by omega) (by omega)
    by_cases hlt : k < n
    · obtain ⟨b, o, x, rfl, hbb, hx1, hc1⟩ := at_int hx hlt
      have ex : xs.drop k = x :: xs.drop (k + 1) := by obtain ⟨h1, rfl⟩ := List.getElem?_eq_some_iff.1 hx1; exact List.drop_eq_getElem_cons h1
      by_cases hm1 : k < m
      · obtain ⟨b', o', y, rfl, hbb', hy1, hc2⟩ := at_int hy hm1
        have ey : ys.drop k = y :: ys.drop (k + 1) := by obtain ⟨h1, rfl⟩ := List.getElem?_eq_some_iff.1 hy1; exact List.drop_eq_getElem_cons h1
        rw [ex, ey, cmpZ] at hz
        have hnx := hide (show x = y → xs.take (k + 1) = ys.take (k + 1) from fun e => by subst e; exact take_eq_succ ht hx1 hy1)
        have hCI := hide (fun X => compareI x y X)
        replace hx1 := hide hx1; replace hy1 := hide hy1; replace ht := hide ht
        replace ex := hide ex; replace ey := hide ey; replace lx := hide lx; replace ly := hide ly
        by_cases h1 : x < y
        · have e := hide (show cmpI x y = -1 from if_pos h1)
          rw [if_pos h1] at hz
          replace hz := hide hz
          go_wp2_with fail
          refine (hCI.out _).mono ?_
          rintro e w1 ⟨rfl, rfl⟩
          rw [e.out]
          go_wp2_with fail
          go_ret
          exact ⟨ret_int hz.out.symm, rfl⟩
        · by_cases h2 : y < x
          · have e := hide (show cmpI x y = 1 by unfold cmpI; rw [if_neg h1, if_pos h2])
            rw [if_neg h1, if_pos h2] at hz
            replace hz := hide hz
            go_wp2_with fail
            refine (hCI.out _).mono ?_
            rintro e w1 ⟨rfl, rfl⟩
            rw [e.out]
            go_wp2_with fail
            go_ret
            exact ⟨ret_int hz.out.symm, rfl⟩
          · have e := hide (show cmpI x y = 0 by unfold cmpI; rw [if_neg h1, if_neg h2])
            have hxy := hide (show x = y by omega)
            replace hz := hide hz
            go_wp2_with fail
            refine (hCI.out _).mono ?_
            rintro e w1 ⟨rfl, rfl⟩
            rw [e.out]
            go_wp2_with fail
            go_roundw
            case rel => exact ⟨k + 1, by go_num, by omega, by omega, hnx.out hxy.out, trivial⟩
            case measure => simp [intOf]; omega
      · have ey : ys.drop k = [] := List.drop_of_length_le (by omega)
        rw [ex, ey, cmpZ] at hz
        have d1 : decide ((m : Int) ≤ (k : Int)) = true := by simp; omega
        have d1' : decide (m ≤ k) = true := by simp; omega
        replace hz := hide hz
        replace ht := hide ht; replace ex := hide ex; replace ey := hide ey; replace hx1 := hide hx1
        go_wp2_with fail
        go_ret
        exact ⟨ret_int hz.out.symm, rfl⟩
    · obtain rfl : k = n := by omega
      have ex : xs.drop k = [] := List.drop_of_length_le (by omega)
      by_cases hm1 : k < m
      · have hlm : k < ys.length := by omega
        rw [ex, List.drop_eq_getElem_cons hlm, cmpZ] at hz
        have d1 : decide ((k : Int) < (m : Int)) = true := by simp; omega
        have d1' : decide (k < m) = true := by simp; omega
        replace hz := hide hz; replace ht := hide ht; replace ex := hide ex
        go_wp2_with fail
        go_ret
        exact ⟨ret_int hz.out.symm, rfl⟩
      · have ey : ys.drop k = [] := List.drop_of_length_le (by omega)
        rw [ex, ey, cmpZ] at hz
        have d1 : decide ((k : Int) < (m : Int)) = false := by simp; omega
        have d1' : decide (k < m) = false := by simp; omega
        replace hz := hide hz; replace ht := hide ht; replace ex := hide ex; replace ey := hide ey
        go_wp2_with fail
        go_ret
        exact ⟨ret_int hz.out.symm, rfl⟩
/-! ### The rows that stand in a list -/
def Inner (w : World) (B : Nat) (ps : List PR) : Prop :=
  (ps.Pairwise fun p q => p.1.ownBlock = none ∨ p.1.ownBlock ≠ q.1.ownBlock) ∧
    ∀ p ∈ ps, ∃ (A' : Option Addr) (c' : Nat), p.1 = Value.slice A' p.2.length c' ∧ w.ownsRow B 3 1 (.slice A' p.2.length c') p.2.length (p.2.map (Value.int .i64))
theorem Inner.kept {w w' : World} {B B' g n c : Nat} {ps : List PR} {xs : List Value} (h : Inner w B ps) (ho : w.ownsRow B' 37 1 (.slice (some ⟨g, 0, none⟩) n c) n xs) (hg : w.grownBy w' (some g)) : Inner w' B ps := by
  refine ⟨h.1, fun p hp => ?_⟩
  obtain ⟨A', c', h1, h2⟩ := h.2 p hp
  exact ⟨A', c', h1, h2.kept hg (own_types h2 ho (by decide))⟩
theorem Inner.perm {w : World} {B : Nat} {ps qs : List PR} (h : Inner w B ps) (hp : qs.Perm ps) : Inner w B qs := by
  refine ⟨(List.Perm.pairwise_iff (fun {p q} hpq => ?_) hp).2 h.1, fun p hq => h.2 p (hp.mem_iff.1 hq)⟩
  rcases hpq with e | e
  · cases hq : q.1.ownBlock
    · exact .inl rfl
    · right; rw [e]; simp
  · exact .inr fun e' => e e'.symm
theorem Inner.sub {w : World} {B : Nat} {ps qs : List PR} (h : Inner w B ps) (hp : qs.Sublist ps) : Inner w B qs := ⟨h.1.sublist hp, fun p hq => h.2 p (hp.subset hq)⟩
theorem Inner.of_rows {w : World} {B H n c : Nat} {A : Option Addr} {zss : List (List Int)} {vs : List Value} (lz : zss.length = n) (h : RowsV w B H A n c zss vs) : Inner w B (vs.zip zss) := by
  obtain ⟨h1, h2, h3⟩ := h
  have lv := own_len h1
  refine ⟨List.pairwise_iff_getElem.2 fun i j hi hj hij => ?_, fun p hp => ?_⟩
  · rw [List.length_zip] at hi hj
    rw [List.getElem_zip, List.getElem_zip]
    exact h3 i j _ _ (by omega) (List.getElem?_eq_getElem (by omega)) (List.getElem?_eq_getElem (by omega))
  · obtain ⟨i, hi, rfl⟩ := List.mem_iff_getElem.1 hp
    rw [List.length_zip] at hi
    rw [List.getElem_zip]
    obtain ⟨A', c', h4, h5, _⟩ := h2 i zss[i] (List.getElem?_eq_getElem (by omega))
    rw [List.getElem?_eq_getElem (by omega)] at h4
    exact ⟨A', c', Option.some.inj h4, h5⟩
theorem Inner.rows {w : World} {B n c : Nat} {A : Option Addr} {ps : List PR} (h : Inner w B ps) (ho : w.ownsRow B 37 1 (.slice A n c) n (ps.map (·.1))) : RowsU w B w.heap.size A n c (ps.map (·.2)) := by
  have lv := own_len ho
  rw [List.length_map] at lv
  refine ⟨by rw [List.length_map]; exact lv, ps.map (·.1), ho, fun i zs hi => ?_, fun i j u v hij hu hv => ?_⟩
  · rw [List.getElem?_map] at hi
    obtain ⟨p, hp, rfl⟩ := Option.map_eq_some_iff.1 hi
    obtain ⟨A', c', h4, h5⟩ := h.2 p (List.mem_of_getElem? hp)
    exact ⟨A', c', by rw [List.getElem?_map, hp, ← h4]; rfl, h5, fun k hk => (h5.lt k hk).2⟩
  · rw [List.getElem?_map] at hu hv
    obtain ⟨p, hp, rfl⟩ := Option.map_eq_some_iff.1 hu
    obtain ⟨q, hq, rfl⟩ := Option.map_eq_some_iff.1 hv
    obtain ⟨hi, rfl⟩ := List.getElem?_eq_some_iff.1 hp
    obtain ⟨hj, rfl⟩ := List.getElem?_eq_some_iff.1 hq
    rcases Nat.lt_or_ge i j with hlt | hge
    · exact List.pairwise_iff_getElem.1 h.1 i j hi hj hlt
    · rcases List.pairwise_iff_getElem.1 h.1 j i hj hi (by omega) with e | e
      · cases hq : ps[i].1.ownBlock
        · exact .inl rfl
        · right; rw [e]; simp
      · exact .inr fun e' => e e'.symm
/-! ### Sorting -/
theorem bang_atP {α : Type} [Inhabited α] {zs : List α} {j : Nat} (h : j < zs.length) : zs.toArray[j]! = zs[j] := by
  rw [getElem!_pos _ j (by simpa using h)]; simp
theorem own_putRowP {α : Type} [Inhabited α] (enc : α → Value) {w : World} {B E g n c : Nat} {xs : List Value} (h : w.ownsRow B E 1 (.slice (some ⟨g, 0, none⟩) n c) n xs) (ds : List α) (hd : ds.length = n) (q : Nat) (os : Array Obj) :
    (Go.Sort.grow (Go.Sort.putRow enc (Go.Sort.ahead w q) g 0 ds.toArray) os).ownsRow B E 1 (.slice (some ⟨g, 0, none⟩) n c) n (ds.map enc) := by
  obtain ⟨hl, hcase⟩ := h
  rcases hcase with ⟨hv, _⟩ | ⟨g', cap, cur, hv, hb, hg, hnc, hcm, hcs, htk⟩
  · cases hv
  cases hv
  have hlt : g < w.heap.size := (Array.getElem?_eq_some_iff.1 hg).1
  refine ⟨by rw [List.length_map, hd, Nat.mul_one], .inr ⟨g, c, Go.Sort.putCells enc 0 ds.toArray cur, rfl, hb, ?_, hnc, hcm, ?_, ?_⟩⟩
  · unfold Go.Sort.grow Go.Sort.putRow Go.Sort.mapBlock Go.Sort.ahead
    rw [Array.getElem?_append_left (by simpa using hlt), Array.getElem?_modify, if_pos rfl, hg]
    rfl
  · unfold Go.Sort.putCells
    rw [Array.size_mapIdx]; exact hcs
  · apply List.ext_getElem?
    intro k
    rw [List.getElem?_take, List.getElem?_map, Array.getElem?_toList]
    by_cases hk : k < n
    · have hkc : k < cur.size := by omega
      unfold Go.Sort.putCells
      rw [if_pos (by omega), Array.getElem?_mapIdx, Array.getElem?_eq_getElem hkc, Option.map_some, if_pos (by simp; omega), List.getElem?_eq_getElem (by omega), Option.map_some, Nat.sub_zero, bang_atP (by omega)]
    · rw [if_neg (by omega), List.getElem?_eq_none (by omega)]
      rfl
theorem grown_putRowP {α : Type} [Inhabited α] (enc : α → Value) (w : World) (g o q : Nat) (ds : Array α) (os : Array Obj) : w.grownBy (Go.Sort.grow (Go.Sort.putRow enc (Go.Sort.ahead w q) g o ds) os) (some g) := by
  refine ⟨rfl, rfl, rfl, ?_, fun k hk hne => ?_⟩
  · unfold Go.Sort.grow Go.Sort.putRow Go.Sort.mapBlock Go.Sort.ahead
    simp
  · unfold Go.Sort.grow Go.Sort.putRow Go.Sort.mapBlock Go.Sort.ahead
    rw [Array.getElem?_append_left (by simp; omega), Array.getElem?_modify, if_neg (fun e => hne (by rw [e]))]
theorem own_holdsP {α : Type} [Inhabited α] (enc : α → Value) {w : World} {B E g n c : Nat} {xs : List α} (h : w.ownsRow B E 1 (.slice (some ⟨g, 0, none⟩) n c) n (xs.map enc)) : Go.Sort.Holds enc w g 0 xs.toArray := by
  intro j hj
  have hl := own_len h
  rw [List.length_map] at hl
  have hj' : j < xs.length := by simpa using hj
  rw [Nat.zero_add, bang_atP hj']
  exact ⟨by rw [h.cellAt j (by omega), List.getElem?_map, List.getElem?_eq_getElem hj']; rfl, h.frozenAt j⟩
theorem sortP (g n c B : Nat) (ps : List PR) (w : World) (ho : w.ownsRow B 37 1 (.slice (some ⟨g, 0, none⟩) n c) n (ps.map (·.1))) (hI : Inner w B ps) (hn : 0 < n) (hN : n ≤ 4000000000) :
    Calls Tryz.prog 40 #[.slice (some ⟨g, 0, none⟩) n c, .func (.func 41) #[] #[]] w fun e w' =>
      e = .returned (.tuple #[]) ∧ ∃ ps' : List PR, ps'.Perm ps ∧ SrtZ ps' ∧ w'.ownsRow B 37 1 (.slice (some ⟨g, 0, none⟩) n c) n (ps'.map (·.1)) ∧ Inner w' B ps' ∧ w.grownBy w' (some g) := by
  have hl : ps.length = n := by have := own_len ho; simpa using this
  have hgl := (ho.lt g rfl).2
  obtain ⟨p0, hp0⟩ : ∃ p, p ∈ ps := by
    cases ps with
    | nil => simp at hl; omega
    | cons p r => exact ⟨p, by simp⟩
  letI : Inhabited {p : PR // p ∈ ps} := ⟨⟨p0, hp0⟩⟩
  have eg : ∀ args w, (callFunc 41 args).run Tryz.prog w = .ok (.enter 41 args) w := enters_of Tryz.func41 (by kernel_rfl) rfl
  have hlt : ∀ x y : {p : PR // p ∈ ps}, ltOf (fun x y : {p : PR // p ∈ ps} => cmpZ x.val.2 y.val.2) x y = lexL x.val.2 y.val.2 := fun x y => cmpZ_lt _ _
  have hO : SWO (ltOf (fun x y : {p : PR // p ∈ ps} => cmpZ x.val.2 y.val.2)) :=
    ⟨fun x => by rw [hlt]; exact lexL_irrefl _, fun x y z h1 h2 => by rw [hlt] at *; exact lexL_trans h1 h2, fun x y z h1 h2 => by rw [hlt] at *; exact lexL_ntrans h1 h2⟩
  have hone : OneCell (fun x : {p : PR // p ∈ ps} => x.val.1) := fun x => by
    obtain ⟨A', c', h1, _⟩ := hI.2 x.val x.property
    show x.val.1.oneCell' = true
    rw [h1]; rfl
  have hat : ps.attach.map (fun x : {p : PR // p ∈ ps} => x.val.1) = ps.map (·.1) := by
    have := congrArg (List.map (fun p : PR => p.1)) (List.attach_map_subtype_val ps)
    rwa [List.map_map] at this
  have ho' : w.ownsRow B 37 1 (.slice (some ⟨g, 0, none⟩) n c) n (ps.attach.map (fun x : {p : PR // p ∈ ps} => x.val.1)) := by rw [hat]; exact ho
  have hcmp : CmpReads Tryz.prog 41 #[] (fun x : {p : PR // p ∈ ps} => x.val.1) (fun x y => cmpZ x.val.2 y.val.2) g 0 ps.attach.toArray.size w := fun m os dk hs x y => by
    have hI2 := hI.kept ho (grown_putRowP (fun x : {p : PR // p ∈ ps} => x.val.1) w g 0 m dk os)
    obtain ⟨Ax, cx, hx1, hx2⟩ := hI2.2 x.val x.property
    obtain ⟨Ay, cy, hy1, hy2⟩ := hI2.2 y.val y.property
    have h := compareL Ax Ay x.val.2.length cx y.val.2.length cy x.val.2 y.val.2 _ (Reads.of_own hx2) (Reads.of_own hy2)
    rw [← hx1, ← hy1] at h
    exact h.mono fun e w' ⟨h1, h2⟩ => ⟨h1, 0, h2.symm⟩
  have hS := Any.slices_SortFunc Tryz.sortL (fun x : {p : PR // p ∈ ps} => x.val.1) hone (fun x y => cmpZ x.val.2 y.val.2) hO 41 #[] g 0 c ps.attach.toArray w eg hcmp.lays (own_holdsP _ ho') hgl (by simp; omega)
  change Calls Tryz.prog 40 _ _ _ at hS
  rw [show ps.attach.toArray.size = n by simp [hl]] at hS
  refine hS.mono ?_
  rintro e w' ⟨rfl, d', q, os, ⟨hp1, _, hp3⟩, hs, hw⟩
  have hsz : d'.size = n := by rw [hp1]; simp [hl]
  have hsz2 : ps.attach.toArray.size = n := by simp [hl]
  have hperm : d'.toList.Perm ps.attach := by
    have e1 : (d'.extract 0 n).toList = d'.toList := by rw [← hsz, Array.extract_size]
    have e2 : (ps.attach.toArray.extract 0 n).toList = ps.attach := by rw [← hsz2, Array.extract_size]
    rwa [e1, e2] at hp3
  have hw2 : w' = Go.Sort.grow (Go.Sort.putRow (fun x : {p : PR // p ∈ ps} => x.val.1) (Go.Sort.ahead w q) g 0 d'.toList.toArray) os := hw
  have hl' : d'.toList.length = n := by simpa using hsz
  refine ⟨rfl, d'.toList.map (·.val), ?_, ?_, ?_, ?_, ?_⟩
  · have := hperm.map (fun x : {p : PR // p ∈ ps} => x.val)
    rwa [List.attach_map_subtype_val] at this
  · unfold SrtZ
    rw [List.pairwise_map]
    refine List.pairwise_iff_getElem.2 fun i j hi hj hij => ?_
    have := hs i j (Nat.zero_le _) hij (by omega)
    rw [hlt, getElem!_pos _ j (by simpa using hj), getElem!_pos _ i (by simpa using hi)] at this
    exact this
  · rw [hw2, List.map_map]
    exact own_putRowP (fun x : {p : PR // p ∈ ps} => x.val.1) ho' d'.toList hl' q os
  · have hI2 := hI.kept ho (grown_putRowP (fun x : {p : PR // p ∈ ps} => x.val.1) w g 0 q d'.toList.toArray os)
    rw [← hw2] at hI2
    refine hI2.perm ?_
    have := hperm.map (fun x : {p : PR // p ∈ ps} => x.val)
    rwa [List.attach_map_subtype_val] at this
  · rw [hw2]
    exact grown_putRowP _ w g 0 q _ os
theorem sort0 (p : Option Addr) (c : Nat) (fv : Value) (w : World) : Calls Tryz.prog 40 #[.slice p 0 c, fv] w fun e w' => e = .returned (.tuple #[]) ∧ w' = w :=
  AnyF.slices_SortFunc_none { Tryz.sortL with } p c fv w
end Go.Proofs.YtooiobcghobefaaGreatDoor
