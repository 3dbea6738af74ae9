/-
  Walks of FormatPartition, in the program and in the reference.
  Conditions: as each theorem says.
-/
import Derived.Test.YtooiobcghobefaaDoorJoin
import Derived.Test.YtooiobcghobefaaDoorFpP
import Derived.Test.YtooiobcghobefaaDoorItaI
import Derived.Test.YtooiobcghobefaaDoorTab
namespace Go.Proofs.YtooiobcghobefaaDoor
open Go.RowKit Go.Lib
set_option linter.unusedVariables false

theorem row_le {zss : List (List Int)} {k : Nat} {zs : List Int} (h : zss[k]? = some zs) : zs.length ≤ lens zss := by
  have h1 := lens_take_succ h
  have h2 := lens_take_le zss (k + 1)
  omega
theorem wordsL_step {zs : List Int} {k : Nat} {z : Int} (h : zs[k]? = some z) (hk : 0 < k) : wordsL (zs.take (k + 1)) = wordsL (zs.take k) ++ ([32] ++ itoa z) := by
  obtain ⟨q, rfl⟩ : ∃ q, k = q + 1 := ⟨k - 1, by omega⟩
  exact wordsL_succ h
set_option maxHeartbeats 3200000 in
set_option maxRecDepth 100000 in
theorem specFp (A : Option Addr) (n c : Nat) (zss : List (List Int)) (w : World) (h : RowsAt w w.heap.size A n zss) (hf : FitsAll zss) (hs : n + lens zss ≤ 1048576) :
    Calls Tryd.prog 17 #[.slice A n c] w (RetVal w (str (fpV zss))) := by
  have lz := h.1
  replace hf := hide hf
  go_enter Tryd.func17, Tryd.ntmps17
  go_wp2_with fail
  go_loopw [3, 4, 5] (fun s i _ wr => ∃ k : Nat, i = .int .i64 (k : Int) ∧ k ≤ n ∧ s = str (partL (zss.take k)) ∧ Below w.heap.size w wr) (fun _ i _ _ => n - (RowKit.intOf i).toNat)
  case atStart => exact ⟨0, rfl, by omega, rfl, Below.refl _ _⟩
  case round =>
    obtain ⟨i, rfl, hi, rfl, hb⟩ := hrel
    by_cases hlt : i < n
    · obtain ⟨b, o, zs, A', c', rfl, hbb, hz1, hc1, hr⟩ := at_row (h.later hb) hlt
      have hzl := row_le hz1
      have hpl := partL_len (hf.out.take i)
      have hll := lens_take_le zss i
      have htl : (zss.take i).length ≤ n := by rw [List.length_take]; omega
      have hnext := hide (preL_next hz1)
      obtain ⟨P, hP⟩ : ∃ P, P = preL zss i := ⟨_, rfl⟩
      have hPl : P.length ≤ 100000000 := by
        rw [hP]; unfold preL
        split
        · simp
        · rw [List.length_append, List.length_cons, List.length_cons, List.length_cons, List.length_nil]; omega
      rw [← hP] at hnext
      have fitz := hide (hf.out.at_ hz1)
      have hz1' := hide hz1
      replace h := hide h
      clear hr hz1
      rcases Nat.eq_zero_or_pos i with hi0 | hi0
      · have d0 : decide ((0 : Int) < (i : Int)) = false := by simp; omega
        have d0' : decide (0 < i) = false := by simp; omega
        have hstart := hide (show str (partL (zss.take i)) = str (P ++ wordsL (zs.take 0)) by rw [hP, hi0, preL_zero]; rfl)
        replace hP := hide hP
        replace hi0 := hide hi0
        go_wp2_with fail
        go_loopw [3, 5] (fun s j wq => ∃ k : Nat, j = .int .i64 (k : Int) ∧ k ≤ zs.length ∧ s = str (P ++ wordsL (zs.take k)) ∧ Below w.heap.size w wq) (fun _ j _ => zs.length - (RowKit.intOf j).toNat)
        case atStart => exact ⟨0, rfl, by omega, hstart.out, hb⟩
        case round =>
          obtain ⟨k, rfl, hk, rfl, hbq⟩ := hrel
          obtain ⟨b2, o2, zs2, A2, c2, hA, hbb2, hz2, hc2, hr2⟩ := at_row (h.out.later hbq) hlt
          cases hA
          obtain rfl : zs = zs2 := Option.some.inj (hz1'.out.symm.trans hz2)
          replace hz2 := hide hz2
          by_cases hkl : k < zs.length
          · obtain ⟨b3, o3, z, rfl, hbb3, hz3, hc3⟩ := at_int hr2 hkl
            have hzf := fitz.out z (List.mem_of_getElem? hz3)
            have hwl := wordsL_len (zs := zs.take k) (fun y hy => fitz.out y (List.mem_of_mem_take hy))
            have htk : (zs.take k).length ≤ 1048576 := by rw [List.length_take]; omega
            have hil := itoa_len hzf.1 hzf.2
            have hI := hide (fun X => specItoa z X hzf.1 hzf.2)
            obtain ⟨S, hS⟩ : ∃ S, S = P ++ wordsL (zs.take k) := ⟨_, rfl⟩
            have hSl : S.length ≤ 200000000 := by rw [hS, List.length_append]; omega
            clear hzf hr2
            rcases Nat.eq_zero_or_pos k with hk0 | hk0
            · have hst := hide (show str (S ++ itoa z) = str (P ++ wordsL (zs.take (k + 1))) by rw [hS]; subst hk0; rw [wordsL_zero hz3, List.take_zero, words_nil, List.append_nil])
              have d1 : decide ((0 : Int) < (k : Int)) = false := by simp; omega
              have d1' : decide (0 < k) = false := by simp; omega
              have hadd2 : ∀ X : World, (binOp .add 9 (str S) (str (itoa z))).run Tryd.prog X = .ok (str (S ++ itoa z)) X := fun X => str_add (P := Tryd.prog) 9 S (itoa z) (by omega) X
              rw [← hS]
              replace hS := hide hS
              replace hz3 := hide hz3
              replace hk0 := hide hk0
              go_wp2_with fail
              refine (hI.out _).mono ?_
              rintro e w4 ⟨rfl, hb4⟩
              replace hbq := below_call hbq hb4
              clear hb4
              go_wp2_with fail
              go_roundw
              case rel => exact ⟨k + 1, by go_num, by omega, hst.out, hbq⟩
              case measure => simp [RowKit.intOf]; omega
            · have hst := hide (show str (S ++ 32 :: itoa z) = str (P ++ wordsL (zs.take (k + 1))) by rw [hS, wordsL_step hz3 hk0]; simp)
              have d1 : decide ((0 : Int) < (k : Int)) = true := by simp; omega
              have d1' : decide (0 < k) = true := by simp; omega
              have hadd1 : ∀ X : World, (binOp .add 9 (str S) (.string ⟨#[32]⟩)).run Tryd.prog X = .ok (str (S ++ [32])) X := fun X => str_add (P := Tryd.prog) 9 S [32] (by simp; omega) X
              have hadd2 : ∀ X : World, (binOp .add 9 (str (S ++ [32])) (str (itoa z))).run Tryd.prog X = .ok (str ((S ++ [32]) ++ itoa z)) X := fun X => str_add (P := Tryd.prog) 9 (S ++ [32]) (itoa z) (by rw [List.length_append, List.length_cons, List.length_nil]; omega) X
              rw [← hS]
              replace hS := hide hS
              replace hz3 := hide hz3
              go_wp2_with fail
              refine (hI.out _).mono ?_
              rintro e w4 ⟨rfl, hb4⟩
              replace hbq := below_call hbq hb4
              clear hb4
              go_wp2_with fail
              go_roundw
              case rel => exact ⟨k + 1, by go_num, by omega, hst.out, hbq⟩
              case measure => simp [RowKit.intOf]; omega
          · obtain rfl : k = zs.length := by omega
            clear hr2
            go_wp2_with fail
            go_roundw
            case rel => exact ⟨i + 1, by go_num, by omega, by rw [List.take_length, hnext.out], hbq⟩
            case measure => simp [RowKit.intOf]; omega
      · have d0 : decide ((0 : Int) < (i : Int)) = true := by simp; omega
        have d0' : decide (0 < i) = true := by simp; omega
        have hPe := hide (hP.trans (preL_succ zss hi0))
        have hadd : ∀ X : World, (binOp .add 9 (str (partL (zss.take i))) (.string ⟨#[32, 124, 32]⟩)).run Tryd.prog X = .ok (str P) X := fun X => by rw [hPe.out]; exact str_add (P := Tryd.prog) 9 (partL (zss.take i)) [32, 124, 32] (by simp; omega) X
        have hstart := hide (show str P = str (P ++ wordsL (zs.take 0)) by rw [List.take_zero, words_nil, List.append_nil])
        replace hP := hide hP
        go_wp2_with fail
        go_loopw [3, 5] (fun s j wq => ∃ k : Nat, j = .int .i64 (k : Int) ∧ k ≤ zs.length ∧ s = str (P ++ wordsL (zs.take k)) ∧ Below w.heap.size w wq) (fun _ j _ => zs.length - (RowKit.intOf j).toNat)
        case atStart => exact ⟨0, rfl, by omega, hstart.out, hb⟩
        case round =>
          obtain ⟨k, rfl, hk, rfl, hbq⟩ := hrel
          obtain ⟨b2, o2, zs2, A2, c2, hA, hbb2, hz2, hc2, hr2⟩ := at_row (h.out.later hbq) hlt
          cases hA
          obtain rfl : zs = zs2 := Option.some.inj (hz1'.out.symm.trans hz2)
          replace hz2 := hide hz2
          by_cases hkl : k < zs.length
          · obtain ⟨b3, o3, z, rfl, hbb3, hz3, hc3⟩ := at_int hr2 hkl
            have hzf := fitz.out z (List.mem_of_getElem? hz3)
            have hwl := wordsL_len (zs := zs.take k) (fun y hy => fitz.out y (List.mem_of_mem_take hy))
            have htk : (zs.take k).length ≤ 1048576 := by rw [List.length_take]; omega
            have hil := itoa_len hzf.1 hzf.2
            have hI := hide (fun X => specItoa z X hzf.1 hzf.2)
            obtain ⟨S, hS⟩ : ∃ S, S = P ++ wordsL (zs.take k) := ⟨_, rfl⟩
            have hSl : S.length ≤ 200000000 := by rw [hS, List.length_append]; omega
            clear hzf hr2
            rcases Nat.eq_zero_or_pos k with hk0 | hk0
            · have hst := hide (show str (S ++ itoa z) = str (P ++ wordsL (zs.take (k + 1))) by rw [hS]; subst hk0; rw [wordsL_zero hz3, List.take_zero, words_nil, List.append_nil])
              have d1 : decide ((0 : Int) < (k : Int)) = false := by simp; omega
              have d1' : decide (0 < k) = false := by simp; omega
              have hadd2 : ∀ X : World, (binOp .add 9 (str S) (str (itoa z))).run Tryd.prog X = .ok (str (S ++ itoa z)) X := fun X => str_add (P := Tryd.prog) 9 S (itoa z) (by omega) X
              rw [← hS]
              replace hS := hide hS
              replace hz3 := hide hz3
              replace hk0 := hide hk0
              go_wp2_with fail
              refine (hI.out _).mono ?_
              rintro e w4 ⟨rfl, hb4⟩
              replace hbq := below_call hbq hb4
              clear hb4
              go_wp2_with fail
              go_roundw
              case rel => exact ⟨k + 1, by go_num, by omega, hst.out, hbq⟩
              case measure => simp [RowKit.intOf]; omega
            · have hst := hide (show str (S ++ 32 :: itoa z) = str (P ++ wordsL (zs.take (k + 1))) by rw [hS, wordsL_step hz3 hk0]; simp)
              have d1 : decide ((0 : Int) < (k : Int)) = true := by simp; omega
              have d1' : decide (0 < k) = true := by simp; omega
              have hadd1 : ∀ X : World, (binOp .add 9 (str S) (.string ⟨#[32]⟩)).run Tryd.prog X = .ok (str (S ++ [32])) X := fun X => str_add (P := Tryd.prog) 9 S [32] (by simp; omega) X
              have hadd2 : ∀ X : World, (binOp .add 9 (str (S ++ [32])) (str (itoa z))).run Tryd.prog X = .ok (str ((S ++ [32]) ++ itoa z)) X := fun X => str_add (P := Tryd.prog) 9 (S ++ [32]) (itoa z) (by rw [List.length_append, List.length_cons, List.length_nil]; omega) X
              rw [← hS]
              replace hS := hide hS
              replace hz3 := hide hz3
              go_wp2_with fail
              refine (hI.out _).mono ?_
              rintro e w4 ⟨rfl, hb4⟩
              replace hbq := below_call hbq hb4
              clear hb4
              go_wp2_with fail
              go_roundw
              case rel => exact ⟨k + 1, by go_num, by omega, hst.out, hbq⟩
              case measure => simp [RowKit.intOf]; omega
          · obtain rfl : k = zs.length := by omega
            clear hr2
            go_wp2_with fail
            go_roundw
            case rel => exact ⟨i + 1, by go_num, by omega, by rw [List.take_length, hnext.out], hbq⟩
            case measure => simp [RowKit.intOf]; omega
    · obtain rfl : i = n := by omega
      have hT : zss.take i = zss := List.take_of_length_le (by omega)
      rw [hT]
      replace h := hide h
      rcases hp : (partL zss == []) with _ | _
      · have hv := hide (fpV_yes hp)
        go_wp2_with fail
        go_ret
        exact ⟨ret_str hv.out.symm, hb⟩
      · have hv := hide (fpV_no hp)
        have hp2 := beq_iff_eq.1 hp
        rw [hp2]
        go_wp2_with fail
        go_ret
        exact ⟨by rw [hv.out]; rfl, hb⟩
set_option maxHeartbeats 3200000 in
set_option maxRecDepth 100000 in
theorem implFp (A : Option Addr) (n c : Nat) (zss : List (List Int)) (w : World) (h : RowsAt w w.heap.size A n zss) (hf : FitsAll zss) (hs : n + lens zss ≤ 1048576) (ht : Tabs w) :
    Calls Tryd.prog 19 #[.slice A n c] w (RetVal w (str (fpV zss))) := by
  have lz := h.1
  have hpl := partL_len hf
  replace hf := hide hf
  replace ht := hide ht
  go_enter Tryd.func19, Tryd.ntmps19
  go_wp2_with fail
  go_loopw [3, 13] (fun s i wr => ∃ (k N c' : Nat) (A' : Option Addr), i = .int .i64 (k : Int) ∧ k ≤ n ∧ s = .slice A' N c' ∧ wr.ownsRow w.heap.size 9 1 (.slice A' N c') N (((zss.take k).map wordsL).map str) ∧ Below w.heap.size w wr) (fun _ i _ => n - (RowKit.intOf i).toNat)
  case atStart => exact ⟨0, 0, 0, _, rfl, by omega, rfl, own_start w _, (Below.refl _ _).alloc (Nat.le_refl _) _⟩
  case round =>
    obtain ⟨i, N1, c1, A1, rfl, hi, rfl, hown, hb⟩ := hrel
    have hN1 : N1 ≤ n := by have := own_len hown; rw [List.length_map, List.length_map, List.length_take] at this; omega
    obtain ⟨wo, hwo0⟩ : ∃ wo : World, wo = wr := ⟨_, rfl⟩
    subst hwo0
    by_cases hlt : i < n
    · obtain ⟨b, o, zs, A', c', rfl, hbb, hz1, hc1, hr⟩ := at_row (h.later hb) hlt
      have hzl := row_le hz1
      have fitz := hide (hf.out.at_ hz1)
      have hwl := wordsL_len fitz.out
      have hz1' := hide hz1
      have hst := own_start wo 9
      have hal : Below wo.heap.size wo (wo.alloc (.cells #[] 9)) := (Below.refl _ _).alloc (Nat.le_refl _) _
      replace hown := hide hown
      clear hz1
      go_wp2_with fail
      go_loopw [6, 20] (fun s j wq => ∃ (k N c' : Nat) (A' : Option Addr), j = .int .i64 (k : Int) ∧ k ≤ zs.length ∧ s = .slice A' N c' ∧ wq.ownsRow wo.heap.size 9 1 (.slice A' N c') N (((zs.take k).map itoa).map str) ∧ Below wo.heap.size wo wq) (fun _ j _ => zs.length - (RowKit.intOf j).toNat)
      case atStart => exact ⟨0, 0, 0, _, rfl, by omega, rfl, hst, hal⟩
      case round =>
        clear hst hal
        obtain ⟨k, N3, c3, A3, rfl, hk, rfl, hwo, hbq⟩ := hrel
        have hN3 : N3 ≤ zs.length := by have := own_len hwo; rw [List.length_map, List.length_map, List.length_take] at this; omega
        by_cases hkl : k < zs.length
        · obtain ⟨b3, o3, z, rfl, hbb3, hz3, hc3⟩ := at_int (hr.below hbq) hkl
          have hzf := fitz.out z (List.mem_of_getElem? hz3)
          have hI := hide (fun X hX => implItoa z X hzf.1 hzf.2 hX)
          have hstep := hide (show ((zs.take k).map itoa).map str ++ [.string ⟨(itoa z).toArray⟩] = ((zs.take (k + 1)).map itoa).map str by rw [← str_def, List.take_add_one, hz3]; simp)
          clear hzf
          replace hz3 := hide hz3
          replace hwo := hide hwo
          go_wp2_with fail
          refine (hI.out _ ((ht.out.below hb).below hbq)).mono ?_
          rintro e w4 ⟨rfl, hb4⟩
          rw [str_def (itoa z)]
          have hwo2 := own_below hwo.out hb4
          have hbq2 := below_call hbq hb4
          have hs4 := hbq2.size
          clear hb4
          go_wp2_with (at_builtin; refine wpList_push elemStr rfl (.tmp 24) (.tmp 27) w4 (.string ⟨(itoa z).toArray⟩) rfl wo.heap.size (.slice A3 N3 c3) N3 _ rfl rfl hwo2 rfl (by omega) hs4 ?_; intro A5 c5 w5 hown5 hg5 hat5; have hbq5 := below_push hbq2 hs4 hwo2 hg5; rw [hstep.out] at hown5; clear hg5 hat5 hwo2 hbq2)
          go_roundw
          case rel => exact ⟨k + 1, N3 + 1, c5, A5, by go_num, by omega, rfl, hown5, hbq5⟩
          case measure => simp [RowKit.intOf]; omega
        · obtain rfl : k = zs.length := by omega
          rw [List.take_length] at hwo
          have hJ := hide (fun X hX => libJoin A3 N3 c3 wo.heap.size (zs.map itoa) [32] X hX (by show (wordsL zs).length ≤ _; omega) (by omega))
          have hown2 := own_below hown.out hbq
          have hbb2 := below_call hb hbq
          have hstep := hide (show ((zss.take i).map wordsL).map str ++ [.string ⟨(wordsL zs).toArray⟩] = ((zss.take (i + 1)).map wordsL).map str by rw [← str_def, List.take_add_one, hz1'.out]; simp)
          replace hwo := hide hwo
          replace hown2 := hide hown2
          clear hr
          go_wp2_with fail
          refine (hJ.out _ hwo.out).mono ?_
          rintro e w4 ⟨rfl, hb4⟩
          rw [show Lib.join (zs.map itoa) [32] = wordsL zs from rfl, str_def (wordsL zs)]
          replace hown2 := own_below hown2.out hb4
          replace hbb2 := below_call hbb2 hb4
          have hs4 := hbb2.size
          clear hb4
          go_wp2_with (at_builtin; refine wpList_push elemStr rfl (.tmp 30) (.tmp 33) w4 (.string ⟨(wordsL zs).toArray⟩) rfl w.heap.size (.slice A1 N1 c1) N1 _ rfl rfl hown2 rfl (by omega) hs4 ?_; intro A5 c5 w5 hown5 hg5 hat5; have hbq5 := below_push hbb2 hs4 hown2 hg5; rw [hstep.out] at hown5; clear hg5 hat5 hown2 hbb2)
          go_roundw
          case rel => exact ⟨i + 1, N1 + 1, c5, A5, by go_num, by omega, rfl, hown5, hbq5⟩
          case measure => simp [RowKit.intOf]; omega
    · obtain rfl : i = n := by omega
      have hT : zss.take i = zss := List.take_of_length_le (by omega)
      rw [hT] at hown
      have hJ := hide (fun X hX => libJoin A1 N1 c1 w.heap.size (zss.map wordsL) [32, 124, 32] X hX (by show (partL zss).length ≤ _; omega) (by omega))
      replace hown := hide hown
      replace h := hide h
      rcases hp : (partL zss == []) with _ | _
      · have hv := hide (fpV_yes hp)
        go_wp2_with fail
        refine (hJ.out _ hown.out).mono ?_
        rintro e w4 ⟨rfl, hb4⟩
        replace hb := below_call hb hb4
        rw [show Lib.join (zss.map wordsL) [32, 124, 32] = partL zss from rfl]
        go_wp2_with fail
        go_ret
        exact ⟨ret_str hv.out.symm, hb⟩
      · have hv := hide (fpV_no hp)
        go_wp2_with fail
        refine (hJ.out _ hown.out).mono ?_
        rintro e w4 ⟨rfl, hb4⟩
        replace hb := below_call hb hb4
        rw [show Lib.join (zss.map wordsL) [32, 124, 32] = partL zss from rfl]
        go_wp2_with fail
        go_ret
        exact ⟨by rw [hv.out]; rfl, hb⟩
end Go.Proofs.YtooiobcghobefaaDoor
