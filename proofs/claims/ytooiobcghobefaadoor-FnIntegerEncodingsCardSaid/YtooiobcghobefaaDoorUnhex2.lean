/-
  Walks of DecodeHex, in the program and in the reference: the loops.
  Conditions: the string has at most 1048576 bytes.
-/
import Derived.Test.YtooiobcghobefaaDoorUnhex
namespace Go.Proofs.YtooiobcghobefaaDoor
open Go.RowKit
set_option linter.unusedVariables false

set_option maxHeartbeats 1600000 in
set_option maxRecDepth 100000 in
theorem implUnhex_even (l : List UInt8) (w : World) (hl : l.length ≤ 1048576) (he : l.length % 2 = 0) : Calls Tryd.prog 37 #[str l] w (RetVal w (unhexV l)) := by
  have g1 : ((l.length : Int) % 2 != 0) = false := by rw [bne_eq_false_iff_eq]; omega
  replace he := hide he
  go_enter Tryd.func37, Tryd.ntmps37
  go_wp2_with fail
  go_loopw [4, 5] (fun o i wr => ∃ (q N c : Nat) (A : Option Addr) (ys : List UInt8), q ≤ l.length ∧ q % 2 = 0 ∧ N ≤ q ∧ i = .int .i64 (q : Int) ∧ o = .slice A N c ∧ unhex l = (unhex (l.drop q)).map (ys ++ ·) ∧ wr.ownsRow w.heap.size 5 1 (.slice A N c) N (ys.map bc) ∧ Below w.heap.size w wr) (fun _ i _ => l.length - (intOf i).toNat)
  case atStart => exact ⟨0, 0, 0, _, [], by omega, rfl, by omega, rfl, rfl, by simp, World.ownsRow_lit (e := 5) (size := 1) w #[] 0 (Nat.le_refl _) (by unfold maxLen; omega) rfl, (Below.refl _ _).alloc (Nat.le_refl _) _⟩
  case round =>
    obtain ⟨q, N, c, A, ys, hq, hq2, hN, rfl, rfl, hun, hown, hb⟩ := hrel
    replace hq2 := hide hq2
    by_cases hlt : q < l.length
    · have hq1 : q + 1 < l.length := by have := hq2.out; have := he.out; omega
      obtain ⟨a, ha⟩ : ∃ a, a = l[q]?.getD 0 := ⟨_, rfl⟩
      obtain ⟨b, hb'⟩ : ∃ b, b = l[q + 1]?.getD 0 := ⟨_, rfl⟩
      have b1 := fromHex_all a
      have b2 := fromHex_all b
      obtain ⟨b11, b12, _⟩ := b1
      obtain ⟨b21, b22, _⟩ := b2
      replace hun := hide hun
      have e1 : l[q]?.getD 0 = a := ha.symm
      have e2 : l[q + 1]?.getD 0 = b := hb'.symm
      clear ha hb'
      rw [List.getElem?_eq_getElem hlt, Option.getD_some] at e1
      rw [List.getElem?_eq_getElem hq1, Option.getD_some] at e2
      have ea : l[q]?.getD 0 = a := by rw [List.getElem?_eq_getElem hlt, Option.getD_some]; exact e1
      have eb : l[q + 1]?.getD 0 = b := by rw [List.getElem?_eq_getElem hq1, Option.getD_some]; exact e2
      by_cases h1 : fromHex a < 0
      · have hn := unhex_bad l ys q hq1 hun.out (by rw [ea]; exact .inl h1)
        replace hn := hide (unhexV_none hn)
        clear ea eb
        by_cases h2 : fromHex b < 0
        all_goals
          go_wp2_with (first
            | (go_at_call 62; refine (idxHex _ _).mono ?_; rintro e w' ⟨rfl, rfl⟩))
          go_ret2
          exact ⟨by rw [hn.out]; rfl, hb⟩
      · by_cases h2 : fromHex b < 0
        · have hn := unhex_bad l ys q hq1 hun.out (by rw [eb]; exact .inr h2)
          replace hn := hide (unhexV_none hn)
          clear ea eb
          go_wp2_with (first
            | (go_at_call 62; refine (idxHex _ _).mono ?_; rintro e w' ⟨rfl, rfl⟩))
          go_ret2
          exact ⟨by rw [hn.out]; rfl, hb⟩
        · have hn := unhex_good l ys q hq1 hun.out (by rw [ea]; omega) (by rw [eb]; omega)
          rw [ea, eb] at hn
          replace hn := hide hn
          clear ea eb
          go_wp2_with (first
            | (go_at_call 62; refine (idxHex _ _).mono ?_; rintro e w' ⟨rfl, rfl⟩)
            | (at_builtin; refine wpList_push elemByte rfl (.tmp 34) (.tmp 40) wr _ rfl w.heap.size (.slice A N c) N _ rfl rfl hown rfl (by omega) hb.size ?_; intro A' c' w1 hown' hg hat))
          have hs := own_snoc (b := UInt8.ofNat (16 * (fromHex a).toNat + (fromHex b).toNat)) (f := bc) hown' (by rw [bc_ofNat _ (by omega)]; congr 1; omega)
          clear hown'
          go_roundw
          case rel => exact ⟨q + 2, N + 1, c', A', _, by omega, by have := hq2.out; omega, by omega, by go_num, rfl, hn.out, hs, below_push hb hb.size hown hg⟩
          case measure => simp [intOf]; omega
    · obtain rfl : q = l.length := by omega
      have hn : unhex l = some ys := by rw [hun, List.drop_length]; simp [unhex]
      replace hn := hide (unhexV_some hn)
      clear hun
      go_wp2_with (with_reducible refine wpList_own_string (o := ⟨some 43, _, _, _, _, _⟩) rfl (.tmp 42) _ _ 5 rfl Tryd.underlying44 Tryd.underlying5 Tryd.underlying9 w.heap.size A N c _ rfl hown ?_)
      go_ret2
      exact ⟨by rw [hn.out]; rfl, hb⟩
set_option maxRecDepth 100000 in
theorem implUnhex_odd (l : List UInt8) (w : World) (hl : l.length ≤ 1048576) (he : l.length % 2 = 1) : Calls Tryd.prog 37 #[str l] w (RetVal w (unhexV l)) := by
  have g1 : ((l.length : Int) % 2 != 0) = true := by rw [bne_iff_ne]; omega
  have hn := hide (unhexV_none (unhex_odd l he))
  clear he
  go_enter Tryd.func37, Tryd.ntmps37
  go_wp2_with fail
  go_ret2
  exact ⟨by rw [hn.out]; rfl, Below.refl _ _⟩
theorem implUnhex (l : List UInt8) (w : World) (hl : l.length ≤ 1048576) : Calls Tryd.prog 37 #[str l] w (RetVal w (unhexV l)) := by
  rcases Nat.mod_two_eq_zero_or_one l.length with h | h
  · exact implUnhex_even l w hl h
  · exact implUnhex_odd l w hl h
theorem unhexV_form (l : List UInt8) : ∃ (r : List UInt8) (b : Bool), unhexV l = .tuple #[str r, .bool b] := by
  unfold unhexV; split <;> exact ⟨_, _, rfl⟩
end Go.Proofs.YtooiobcghobefaaDoor
