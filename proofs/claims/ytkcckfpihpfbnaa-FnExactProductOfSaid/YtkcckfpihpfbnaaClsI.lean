/-
  The program's classes of a relation, the relation given as a function.
  Conditions: as each theorem says.
-/
import Derived.Test.YtkcckfpihpfbnaaClsP
import Derived.Test.YtkcckfpihpfbnaaRowsU
import Derived.Test.YtkcckfpihpfbnaaAttr
namespace Go.Proofs.Ytkcckfpihpfbnaa
open Go.RowKit
set_option linter.unusedVariables false

theorem size_setC (w : World) (a : Addr) (u : Value) : (w.setCell a u).heap.size = w.heap.size := by simp [World.setCell]
theorem elemB : Elem Try.prog 98 4 (.bool false) 1 := ⟨Try.underlying98, by kernel_rfl, rfl, by decide⟩
set_option maxHeartbeats 3200000 in
set_option maxRecDepth 100000 in
theorem classesOf_part (n : Nat) (hn : n ≤ 40) (S : Nat → Nat → Bool) (hP : Per S n) (v1 v2 v3 : Value) (w : World) (hsame : ∀ (W : World) (i k : Nat), Below w.heap.size w W → i < k → k < n → Calls Try.prog 103 #[.int .i64 (i : Int), .int .i64 (k : Int), v1, v2, v3] W (RetVal W (.bool (S i k)))) :
    Calls Try.prog 99 #[.int .i64 (n : Int), .func (.func 103) #[] #[v1, v2, v3]] w (RetRows w (clsL S n n)) := by
  obtain ⟨ib, hib, hzb, hzb1, hzb2⟩ := info_parts elemB.info
  replace hsame := hide hsame
  have hP' := hide hP
  clear hP
  go_enter Try.func99, Try.ntmps99
  go_wp2_with (at_make; refine wpList_make_full _ rfl _ _ 98 rfl w.heap.size 4 ib (.bool false) 1 Try.underlying98 hib hzb hzb1 .i64 .i64 _ _ n rfl rfl rfl rfl (by rw [hzb2]; omega) (by unfold maxLen; omega) (by simp) ?_; intro w1 hown hg)
  have hst0 := RowsU.start w w.heap.size
  have hb0 : Below w.heap.size w (w.alloc (.cells #[] 29)) := (Below.refl _ _).alloc (Nat.le_refl _) _
  have hwz : (w.alloc (.cells #[] 29)).heap.size = w.heap.size + 1 := by simp
  have hb1' : Below (w.alloc (.cells #[] 29)).heap.size (w.alloc (.cells #[] 29)) w1 := (Below.refl _ _).grown hg (Nat.le_refl _) (by intro k hk; cases hk)
  have hb1 : Below w.heap.size w w1 := hb0.trans (hb1'.mono (by omega))
  have hst1 : RowsU w1 w.heap.size w.heap.size (some ⟨w.heap.size, 0, none⟩) 0 0 [] := hst0.below hb1'
  have e : (madeCells (Value.bool false).cells (n * 1)).toList = (List.range n).map fun k => Value.bool (tkB S 0 k) := by
    show (madeCells #[Value.bool false] (n * 1)).toList = _
    rw [toList_madeCells_one, Nat.mul_one]
    apply List.ext_getElem
    · simp
    · intro i h1 h2; simp [tkB]
  rw [e] at hown
  try rw [hwz] at hown
  have hst2 := hst1.bound
  clear hib hzb hzb1 hzb2 hg e hst0 hb0 hb1' hst1 hwz
  go_loopw [5, 7, 8, 9] (fun out i _ _ wr => ∃ (k N d : Nat) (A' : Option Addr), k ≤ n ∧ i = .int .i64 (k : Int) ∧ out = .slice A' N d ∧ RowsU wr w.heap.size wr.heap.size A' N d (clsL S n k) ∧ wr.ownsRow w.heap.size 4 1 (.slice (some ⟨w.heap.size + 1, 0, none⟩) n n) n ((List.range n).map fun q => Value.bool (tkB S k q)) ∧ Below w.heap.size w wr) (fun _ i _ _ _ => n - (intOf i).toNat)
  case atStart => exact ⟨0, 0, 0, _, by omega, rfl, rfl, hst2, hown, hb1⟩
  case round =>
    clear hst2 hown hb1
    obtain ⟨k, N, d, A', hk, rfl, rfl, hR, hT, hb⟩ := hrel
    have hN : N ≤ 40 := by have h1 := hR.1; have h2 := clsL_len S n k; omega
    by_cases hlt : k < n
    · have hcT := hT.cellAt k (by omega)
      rw [List.getElem?_map, List.getElem?_range hlt, Option.map_some] at hcT
      rcases ht : tkB S k k with _ | _
      · rw [ht] at hcT
        have ht' := hide ht
        clear ht
        replace hT := hide hT
        replace hR := hide hR
        obtain ⟨Hs, hHs⟩ : ∃ Hs, Hs = wr.heap.size := ⟨_, rfl⟩
        have hwH : w.heap.size ≤ Hs := by rw [hHs]; exact hb.size
        have hc0 : (wr.alloc (.cells #[.int .i64 (k : Int)] 3)).ownsRow Hs 3 1 (.slice (some ⟨wr.heap.size, 0, none⟩) 1 1) 1 ((clsTo S k (k + 1)).map (Value.int .i64)) := by
          rw [clsTo_start, hHs]
          exact World.ownsRow_lit (e := 3) (size := 1) wr #[.int .i64 (k : Int)] 1 (Nat.le_refl _) (by unfold maxLen; omega) rfl
        have hR0 : RowsU (wr.alloc (.cells #[.int .i64 (k : Int)] 3)) w.heap.size Hs A' N d (clsL S n k) := by rw [hHs]; exact hR.out.below ((Below.refl _ _).alloc (Nat.le_refl _) _)
        have hT0 : (wr.alloc (.cells #[.int .i64 (k : Int)] 3)).ownsRow w.heap.size 4 1 (.slice (some ⟨w.heap.size + 1, 0, none⟩) n n) n ((List.range n).map fun q => Value.bool (tkI S k (k + 1) q)) := by
          rw [map_bool_eq (tkI S k (k + 1)) (tkB S k) n (fun q _ => (tkI_start S k q).symm)]
          exact own_below hT.out ((Below.refl _ _).alloc (Nat.le_refl _) _)
        have hbA : Below w.heap.size w (wr.alloc (.cells #[.int .i64 (k : Int)] 3)) := hb.alloc hb.size _
        replace hc0 := hide hc0
        replace hR0 := hide hR0
        replace hT0 := hide hT0
        replace hHs := hide hHs
        go_wp2_with fail
        go_loopw [8, 9] (fun cl j wq => ∃ (q N3 d3 : Nat) (A3 : Option Addr), k < q ∧ q ≤ n ∧ j = .int .i64 (q : Int) ∧ cl = .slice A3 N3 d3 ∧ wq.ownsRow Hs 3 1 (.slice A3 N3 d3) N3 ((clsTo S k q).map (Value.int .i64)) ∧ RowsU wq w.heap.size Hs A' N d (clsL S n k) ∧ wq.ownsRow w.heap.size 4 1 (.slice (some ⟨w.heap.size + 1, 0, none⟩) n n) n ((List.range n).map fun q' => Value.bool (tkI S k q q')) ∧ Below w.heap.size w wq ∧ Hs ≤ wq.heap.size) (fun _ j _ => n - (intOf j).toNat)
        case atStart => exact ⟨k + 1, 1, 1, _, by omega, by omega, by go_num, rfl, hc0.out, hR0.out, hT0.out, hbA, by rw [hHs.out]; simp⟩
        case round =>
          clear hc0 hR0 hT0 hbA hb hR hT hcT hHs
          obtain ⟨q, N3, d3, A3, hkq, hqn, rfl, rfl, hc, hR, hT, hb, hHz⟩ := hrel
          have hN3 : N3 ≤ 41 := by have h1 := own_len hc; rw [List.length_map] at h1; have := clsTo_len S k q; omega
          by_cases hql : q < n
          · have hcT := hT.cellAt q (by omega)
            rw [List.getElem?_map, List.getElem?_range hql, Option.map_some, tkI_at] at hcT
            have hfz := hT.frozenAt q
            rcases htq : tkB S k q with _ | _
            · rw [htq] at hcT
              rcases hS : S k q with _ | _
              · have h1 := hide (clsTo_no hS)
                have h2 := hide (map_bool_eq (tkI S k q) (tkI S k (q + 1)) n (fun x _ => tkI_no hS x))
                have hcall := hide (hsame.out wr k q hb hkq hql)
                rw [hS] at hcall
                clear hS htq hfz
                replace hc := hide hc
                replace hR := hide hR
                replace hT := hide hT
                go_wp2_with fail
                refine hcall.out.mono ?_
                rintro e w2 ⟨rfl, hb2⟩
                go_wp2_with fail
                go_roundw
                case rel => exact ⟨q + 1, N3, d3, A3, by omega, by omega, by go_num, rfl, by rw [h1.out]; exact own_below hc.out hb2, hR.out.below hb2, by rw [← h2.out]; exact own_below hT.out hb2, below_call hb hb2, Nat.le_trans hHz hb2.size⟩
                case measure => simp [intOf]; omega
              · have h1 := hide (clsTo_yes hS hkq)
                have h2 := hide (map_set_bool (tkI S k q) (tkI S k (q + 1)) n q (fun x _ => tkI_yes hS hkq x) hql)
                have hcall := hide (hsame.out wr k q hb hkq hql)
                rw [hS] at hcall
                clear hS htq hfz
                replace hc := hide hc
                replace hR := hide hR
                replace hT := hide hT
                go_wp2_with fail
                refine hcall.out.mono ?_
                rintro e w2 ⟨rfl, hb2⟩
                replace hc := own_below hc.out hb2
                replace hR := hR.out.below hb2
                replace hT := own_below hT.out hb2
                replace hb := below_call hb hb2
                replace hHz := Nat.le_trans hHz hb2.size
                clear hb2 hcT
                have hfz := hT.frozenAt q
                obtain ⟨tv, hcT⟩ := cell_own hT hql
                have hstT := (hT.stored q (.bool true)).1
                rw [h2.out] at hstT
                have hcS := own_store (o := q) (.bool true) hc (own_types hc hT (by decide))
                have hRS := hR.other hT (by decide) (.inl (by decide)) (grown_setCell w2 (w.heap.size + 1) q (.bool true))
                have hbS : Below w.heap.size w (w2.setCell ⟨w.heap.size + 1, q, none⟩ (.bool true)) := hb.setCell (show w.heap.size ≤ w.heap.size + 1 by omega) _
                replace hc := hide hc
                replace hR := hide hR
                replace hT := hide hT
                replace hRS := hide hRS
                replace hstT := hide hstT
                have hHS : Hs ≤ (w2.setCell ⟨w.heap.size + 1, q, none⟩ (.bool true)).heap.size := by simpa [World.setCell] using hHz
                go_wp2_with (at_builtin; refine wpList_push elemInt rfl (.tmp 45) (.tmp 47) (w2.setCell ⟨w.heap.size + 1, q, none⟩ (.bool true)) (.int .i64 (q : Int)) rfl Hs (.slice A3 N3 d3) N3 _ rfl (by rw [size_setC]; rfl) hcS rfl (by omega) hHS ?_; intro A4 c4 w4 hown4 hg4 hat4)
                have hb5 := below_push hbS (by simpa [World.setCell] using hb.size) (own_more hcS hwH) hg4
                have hT5 := World.ownsRow.kept hstT.out hg4 (own_types hstT.out hcS (by decide))
                have hR5 := hRS.out.other hcS (by decide) (.inr (fun g hg => (hcS.lt g hg).1)) hg4
                have hH5 : Hs ≤ w4.heap.size := Nat.le_trans hHS hg4.size
                clear hat4
                replace hT5 := hide hT5
                replace hR5 := hide hR5
                go_roundw
                case rel => exact ⟨q + 1, N3 + 1, c4, A4, by omega, by omega, by go_num, rfl, by rw [h1.out, List.map_append]; exact hown4, hR5.out, hT5.out, hb5, hH5⟩
                case measure => simp [intOf]; omega
            · rw [htq] at hcT
              have hS := tk_no hP'.out hkq hql ht'.out htq
              have h1 := hide (clsTo_no hS)
              have h2 := hide (map_bool_eq (tkI S k q) (tkI S k (q + 1)) n (fun x _ => tkI_no hS x))
              clear hS htq hfz
              replace hc := hide hc
              replace hR := hide hR
              replace hT := hide hT
              go_wp2_with fail
              go_roundw
              case rel => exact ⟨q + 1, N3, d3, A3, by omega, by omega, by go_num, rfl, by rw [h1.out]; exact hc.out, hR.out, by rw [← h2.out]; exact hT.out, hb, hHz⟩
              case measure => simp [intOf]; omega
          · obtain rfl : q = n := by omega
            have h2 := hide (map_bool_eq (tkI S k q) (tkB S (k + 1)) q (fun x hx => (tkI_end hx).symm))
            have lc : (clsTo S k q).length = N3 := by have := own_len hc; simpa using this
            by_cases h1 : 1 < N3
            · have d1 : decide ((1 : Int) < (N3 : Int)) = true := by simp; omega
              have d1' : decide (1 < N3) = true := by simp; omega
              have hstep := hide (clsL_yes (n := q) ht'.out (by rw [lc]; exact h1))
              obtain ⟨lz, vs, hV⟩ := hR
              have hV1 := hV.1
              replace hV := hide hV
              replace hT := hide hT
              replace hc := hide hc
              replace lc := hide lc
              replace lz := hide lz
              go_wp2_with (at_builtin; refine wpList_push elemS rfl (.tmp 52) (.tmp 54) wr (.slice A3 N3 d3) rfl w.heap.size (.slice A' N d) N _ rfl rfl hV1 rfl (by omega) hb.size ?_; intro A4 c4 w4 hown4 hg4 hat4)
              have hR5 := RowsU.push lz.out hV.out (own_more hc.out hwH) (fun g hg => (hc.out.lt g hg).1) hown4 hg4
              have hT5 := World.ownsRow.kept hT.out hg4 (own_types hT.out hV1 (by decide))
              have hb5 := below_push hb hb.size hV1 hg4
              clear hat4 hown4 hV1
              replace hT5 := hide hT5
              replace hR5 := hide hR5
              go_roundw
              case rel => exact ⟨k + 1, N + 1, c4, A4, by omega, by go_num, rfl, by rw [hstep.out]; exact hR5.out, by rw [← h2.out]; exact hT5.out, hb5⟩
              case measure => simp [intOf]; omega
            · have d1 : decide ((1 : Int) < (N3 : Int)) = false := by simp; omega
              have d1' : decide (1 < N3) = false := by simp; omega
              have hstep := hide (clsL_one (S := S) (n := q) (i := k) (by rw [lc]; exact h1))
              have hR5 := hide hR.bound
              replace hT := hide hT
              replace hc := hide hc
              replace hR := hide hR
              go_wp2_with fail
              go_roundw
              case rel => exact ⟨k + 1, N, d, A', by omega, by go_num, rfl, by rw [hstep.out]; exact hR5.out, by rw [← h2.out]; exact hT.out, hb⟩
              case measure => simp [intOf]; omega
      · rw [ht] at hcT
        have hsk := hide (clsL_skip (n := n) ht)
        have hbe := hide (map_bool_eq (tkB S k) (tkB S (k + 1)) n (fun q hq => tk_skip hP'.out hq ht))
        have ht' := hide ht
        clear ht
        replace hT := hide hT
        replace hR := hide hR
        go_wp2_with fail
        go_roundw
        case rel => exact ⟨k + 1, N, d, A', by omega, by go_num, rfl, by rw [hsk.out]; exact hR.out, by rw [← hbe.out]; exact hT.out, hb⟩
        case measure => simp [intOf]; omega
    · obtain rfl : k = n := by omega
      replace hT := hide hT
      replace hR := hide hR
      go_wp2_with fail
      go_ret
      exact ⟨A', N, d, rfl, hR.out.own, hb⟩
set_option maxHeartbeats 3200000 in
set_option maxRecDepth 100000 in
theorem classesOf_prod (n : Nat) (hn : n ≤ 40) (S : Nat → Nat → Bool) (hP : Per S n) (v1 v2 : Value) (w : World) (hsame : ∀ (W : World) (i k : Nat), Below w.heap.size w W → i < k → k < n → Calls Try.prog 100 #[.int .i64 (i : Int), .int .i64 (k : Int), v1, v2] W (RetVal W (.bool (S i k)))) :
    Calls Try.prog 99 #[.int .i64 (n : Int), .func (.func 100) #[] #[v1, v2]] w (RetRows w (clsL S n n)) := by
  obtain ⟨ib, hib, hzb, hzb1, hzb2⟩ := info_parts elemB.info
  replace hsame := hide hsame
  have hP' := hide hP
  clear hP
  go_enter Try.func99, Try.ntmps99
  go_wp2_with (at_make; refine wpList_make_full _ rfl _ _ 98 rfl w.heap.size 4 ib (.bool false) 1 Try.underlying98 hib hzb hzb1 .i64 .i64 _ _ n rfl rfl rfl rfl (by rw [hzb2]; omega) (by unfold maxLen; omega) (by simp) ?_; intro w1 hown hg)
  have hst0 := RowsU.start w w.heap.size
  have hb0 : Below w.heap.size w (w.alloc (.cells #[] 29)) := (Below.refl _ _).alloc (Nat.le_refl _) _
  have hwz : (w.alloc (.cells #[] 29)).heap.size = w.heap.size + 1 := by simp
  have hb1' : Below (w.alloc (.cells #[] 29)).heap.size (w.alloc (.cells #[] 29)) w1 := (Below.refl _ _).grown hg (Nat.le_refl _) (by intro k hk; cases hk)
  have hb1 : Below w.heap.size w w1 := hb0.trans (hb1'.mono (by omega))
  have hst1 : RowsU w1 w.heap.size w.heap.size (some ⟨w.heap.size, 0, none⟩) 0 0 [] := hst0.below hb1'
  have e : (madeCells (Value.bool false).cells (n * 1)).toList = (List.range n).map fun k => Value.bool (tkB S 0 k) := by
    show (madeCells #[Value.bool false] (n * 1)).toList = _
    rw [toList_madeCells_one, Nat.mul_one]
    apply List.ext_getElem
    · simp
    · intro i h1 h2; simp [tkB]
  rw [e] at hown
  try rw [hwz] at hown
  have hst2 := hst1.bound
  clear hib hzb hzb1 hzb2 hg e hst0 hb0 hb1' hst1 hwz
  go_loopw [5, 7, 8, 9] (fun out i _ _ wr => ∃ (k N d : Nat) (A' : Option Addr), k ≤ n ∧ i = .int .i64 (k : Int) ∧ out = .slice A' N d ∧ RowsU wr w.heap.size wr.heap.size A' N d (clsL S n k) ∧ wr.ownsRow w.heap.size 4 1 (.slice (some ⟨w.heap.size + 1, 0, none⟩) n n) n ((List.range n).map fun q => Value.bool (tkB S k q)) ∧ Below w.heap.size w wr) (fun _ i _ _ _ => n - (intOf i).toNat)
  case atStart => exact ⟨0, 0, 0, _, by omega, rfl, rfl, hst2, hown, hb1⟩
  case round =>
    clear hst2 hown hb1
    obtain ⟨k, N, d, A', hk, rfl, rfl, hR, hT, hb⟩ := hrel
    have hN : N ≤ 40 := by have h1 := hR.1; have h2 := clsL_len S n k; omega
    by_cases hlt : k < n
    · have hcT := hT.cellAt k (by omega)
      rw [List.getElem?_map, List.getElem?_range hlt, Option.map_some] at hcT
      rcases ht : tkB S k k with _ | _
      · rw [ht] at hcT
        have ht' := hide ht
        clear ht
        replace hT := hide hT
        replace hR := hide hR
        obtain ⟨Hs, hHs⟩ : ∃ Hs, Hs = wr.heap.size := ⟨_, rfl⟩
        have hwH : w.heap.size ≤ Hs := by rw [hHs]; exact hb.size
        have hc0 : (wr.alloc (.cells #[.int .i64 (k : Int)] 3)).ownsRow Hs 3 1 (.slice (some ⟨wr.heap.size, 0, none⟩) 1 1) 1 ((clsTo S k (k + 1)).map (Value.int .i64)) := by
          rw [clsTo_start, hHs]
          exact World.ownsRow_lit (e := 3) (size := 1) wr #[.int .i64 (k : Int)] 1 (Nat.le_refl _) (by unfold maxLen; omega) rfl
        have hR0 : RowsU (wr.alloc (.cells #[.int .i64 (k : Int)] 3)) w.heap.size Hs A' N d (clsL S n k) := by rw [hHs]; exact hR.out.below ((Below.refl _ _).alloc (Nat.le_refl _) _)
        have hT0 : (wr.alloc (.cells #[.int .i64 (k : Int)] 3)).ownsRow w.heap.size 4 1 (.slice (some ⟨w.heap.size + 1, 0, none⟩) n n) n ((List.range n).map fun q => Value.bool (tkI S k (k + 1) q)) := by
          rw [map_bool_eq (tkI S k (k + 1)) (tkB S k) n (fun q _ => (tkI_start S k q).symm)]
          exact own_below hT.out ((Below.refl _ _).alloc (Nat.le_refl _) _)
        have hbA : Below w.heap.size w (wr.alloc (.cells #[.int .i64 (k : Int)] 3)) := hb.alloc hb.size _
        replace hc0 := hide hc0
        replace hR0 := hide hR0
        replace hT0 := hide hT0
        replace hHs := hide hHs
        go_wp2_with fail
        go_loopw [8, 9] (fun cl j wq => ∃ (q N3 d3 : Nat) (A3 : Option Addr), k < q ∧ q ≤ n ∧ j = .int .i64 (q : Int) ∧ cl = .slice A3 N3 d3 ∧ wq.ownsRow Hs 3 1 (.slice A3 N3 d3) N3 ((clsTo S k q).map (Value.int .i64)) ∧ RowsU wq w.heap.size Hs A' N d (clsL S n k) ∧ wq.ownsRow w.heap.size 4 1 (.slice (some ⟨w.heap.size + 1, 0, none⟩) n n) n ((List.range n).map fun q' => Value.bool (tkI S k q q')) ∧ Below w.heap.size w wq ∧ Hs ≤ wq.heap.size) (fun _ j _ => n - (intOf j).toNat)
        case atStart => exact ⟨k + 1, 1, 1, _, by omega, by omega, by go_num, rfl, hc0.out, hR0.out, hT0.out, hbA, by rw [hHs.out]; simp⟩
        case round =>
          clear hc0 hR0 hT0 hbA hb hR hT hcT hHs
          obtain ⟨q, N3, d3, A3, hkq, hqn, rfl, rfl, hc, hR, hT, hb, hHz⟩ := hrel
          have hN3 : N3 ≤ 41 := by have h1 := own_len hc; rw [List.length_map] at h1; have := clsTo_len S k q; omega
          by_cases hql : q < n
          · have hcT := hT.cellAt q (by omega)
            rw [List.getElem?_map, List.getElem?_range hql, Option.map_some, tkI_at] at hcT
            have hfz := hT.frozenAt q
            rcases htq : tkB S k q with _ | _
            · rw [htq] at hcT
              rcases hS : S k q with _ | _
              · have h1 := hide (clsTo_no hS)
                have h2 := hide (map_bool_eq (tkI S k q) (tkI S k (q + 1)) n (fun x _ => tkI_no hS x))
                have hcall := hide (hsame.out wr k q hb hkq hql)
                rw [hS] at hcall
                clear hS htq hfz
                replace hc := hide hc
                replace hR := hide hR
                replace hT := hide hT
                go_wp2_with fail
                refine hcall.out.mono ?_
                rintro e w2 ⟨rfl, hb2⟩
                go_wp2_with fail
                go_roundw
                case rel => exact ⟨q + 1, N3, d3, A3, by omega, by omega, by go_num, rfl, by rw [h1.out]; exact own_below hc.out hb2, hR.out.below hb2, by rw [← h2.out]; exact own_below hT.out hb2, below_call hb hb2, Nat.le_trans hHz hb2.size⟩
                case measure => simp [intOf]; omega
              · have h1 := hide (clsTo_yes hS hkq)
                have h2 := hide (map_set_bool (tkI S k q) (tkI S k (q + 1)) n q (fun x _ => tkI_yes hS hkq x) hql)
                have hcall := hide (hsame.out wr k q hb hkq hql)
                rw [hS] at hcall
                clear hS htq hfz
                replace hc := hide hc
                replace hR := hide hR
                replace hT := hide hT
                go_wp2_with fail
                refine hcall.out.mono ?_
                rintro e w2 ⟨rfl, hb2⟩
                replace hc := own_below hc.out hb2
                replace hR := hR.out.below hb2
                replace hT := own_below hT.out hb2
                replace hb := below_call hb hb2
                replace hHz := Nat.le_trans hHz hb2.size
                clear hb2 hcT
                have hfz := hT.frozenAt q
                obtain ⟨tv, hcT⟩ := cell_own hT hql
                have hstT := (hT.stored q (.bool true)).1
                rw [h2.out] at hstT
                have hcS := own_store (o := q) (.bool true) hc (own_types hc hT (by decide))
                have hRS := hR.other hT (by decide) (.inl (by decide)) (grown_setCell w2 (w.heap.size + 1) q (.bool true))
                have hbS : Below w.heap.size w (w2.setCell ⟨w.heap.size + 1, q, none⟩ (.bool true)) := hb.setCell (show w.heap.size ≤ w.heap.size + 1 by omega) _
                replace hc := hide hc
                replace hR := hide hR
                replace hT := hide hT
                replace hRS := hide hRS
                replace hstT := hide hstT
                have hHS : Hs ≤ (w2.setCell ⟨w.heap.size + 1, q, none⟩ (.bool true)).heap.size := by simpa [World.setCell] using hHz
                go_wp2_with (at_builtin; refine wpList_push elemInt rfl (.tmp 45) (.tmp 47) (w2.setCell ⟨w.heap.size + 1, q, none⟩ (.bool true)) (.int .i64 (q : Int)) rfl Hs (.slice A3 N3 d3) N3 _ rfl (by rw [size_setC]; rfl) hcS rfl (by omega) hHS ?_; intro A4 c4 w4 hown4 hg4 hat4)
                have hb5 := below_push hbS (by simpa [World.setCell] using hb.size) (own_more hcS hwH) hg4
                have hT5 := World.ownsRow.kept hstT.out hg4 (own_types hstT.out hcS (by decide))
                have hR5 := hRS.out.other hcS (by decide) (.inr (fun g hg => (hcS.lt g hg).1)) hg4
                have hH5 : Hs ≤ w4.heap.size := Nat.le_trans hHS hg4.size
                clear hat4
                replace hT5 := hide hT5
                replace hR5 := hide hR5
                go_roundw
                case rel => exact ⟨q + 1, N3 + 1, c4, A4, by omega, by omega, by go_num, rfl, by rw [h1.out, List.map_append]; exact hown4, hR5.out, hT5.out, hb5, hH5⟩
                case measure => simp [intOf]; omega
            · rw [htq] at hcT
              have hS := tk_no hP'.out hkq hql ht'.out htq
              have h1 := hide (clsTo_no hS)
              have h2 := hide (map_bool_eq (tkI S k q) (tkI S k (q + 1)) n (fun x _ => tkI_no hS x))
              clear hS htq hfz
              replace hc := hide hc
              replace hR := hide hR
              replace hT := hide hT
              go_wp2_with fail
              go_roundw
              case rel => exact ⟨q + 1, N3, d3, A3, by omega, by omega, by go_num, rfl, by rw [h1.out]; exact hc.out, hR.out, by rw [← h2.out]; exact hT.out, hb, hHz⟩
              case measure => simp [intOf]; omega
          · obtain rfl : q = n := by omega
            have h2 := hide (map_bool_eq (tkI S k q) (tkB S (k + 1)) q (fun x hx => (tkI_end hx).symm))
            have lc : (clsTo S k q).length = N3 := by have := own_len hc; simpa using this
            by_cases h1 : 1 < N3
            · have d1 : decide ((1 : Int) < (N3 : Int)) = true := by simp; omega
              have d1' : decide (1 < N3) = true := by simp; omega
              have hstep := hide (clsL_yes (n := q) ht'.out (by rw [lc]; exact h1))
              obtain ⟨lz, vs, hV⟩ := hR
              have hV1 := hV.1
              replace hV := hide hV
              replace hT := hide hT
              replace hc := hide hc
              replace lc := hide lc
              replace lz := hide lz
              go_wp2_with (at_builtin; refine wpList_push elemS rfl (.tmp 52) (.tmp 54) wr (.slice A3 N3 d3) rfl w.heap.size (.slice A' N d) N _ rfl rfl hV1 rfl (by omega) hb.size ?_; intro A4 c4 w4 hown4 hg4 hat4)
              have hR5 := RowsU.push lz.out hV.out (own_more hc.out hwH) (fun g hg => (hc.out.lt g hg).1) hown4 hg4
              have hT5 := World.ownsRow.kept hT.out hg4 (own_types hT.out hV1 (by decide))
              have hb5 := below_push hb hb.size hV1 hg4
              clear hat4 hown4 hV1
              replace hT5 := hide hT5
              replace hR5 := hide hR5
              go_roundw
              case rel => exact ⟨k + 1, N + 1, c4, A4, by omega, by go_num, rfl, by rw [hstep.out]; exact hR5.out, by rw [← h2.out]; exact hT5.out, hb5⟩
              case measure => simp [intOf]; omega
            · have d1 : decide ((1 : Int) < (N3 : Int)) = false := by simp; omega
              have d1' : decide (1 < N3) = false := by simp; omega
              have hstep := hide (clsL_one (S := S) (n := q) (i := k) (by rw [lc]; exact h1))
              have hR5 := hide hR.bound
              replace hT := hide hT
              replace hc := hide hc
              replace hR := hide hR
              go_wp2_with fail
              go_roundw
              case rel => exact ⟨k + 1, N, d, A', by omega, by go_num, rfl, by rw [hstep.out]; exact hR5.out, by rw [← h2.out]; exact hT.out, hb⟩
              case measure => simp [intOf]; omega
      · rw [ht] at hcT
        have hsk := hide (clsL_skip (n := n) ht)
        have hbe := hide (map_bool_eq (tkB S k) (tkB S (k + 1)) n (fun q hq => tk_skip hP'.out hq ht))
        have ht' := hide ht
        clear ht
        replace hT := hide hT
        replace hR := hide hR
        go_wp2_with fail
        go_roundw
        case rel => exact ⟨k + 1, N, d, A', by omega, by go_num, rfl, by rw [hsk.out]; exact hR.out, by rw [← hbe.out]; exact hT.out, hb⟩
        case measure => simp [intOf]; omega
    · obtain rfl : k = n := by omega
      replace hT := hide hT
      replace hR := hide hR
      go_wp2_with fail
      go_ret
      exact ⟨A', N, d, rfl, hR.out.own, hb⟩
end Go.Proofs.Ytkcckfpihpfbnaa
