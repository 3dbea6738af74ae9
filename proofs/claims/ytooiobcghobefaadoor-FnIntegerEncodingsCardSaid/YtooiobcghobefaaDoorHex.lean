/-
  Walks of EncodeHex, in the program and in the reference.
  Conditions: the string has at most 1048576 bytes.
-/
import Derived.Test.YtooiobcghobefaaDoorNumC
namespace Go.Proofs.YtooiobcghobefaaDoor
open Go.RowKit
set_option linter.unusedVariables false
theorem drop_get (s : ByteArray) (k : Nat) (h : k < s.size) : s.data.toList[k]? = some s[k] := by
  rw [List.getElem?_eq_getElem (by simpa using h)]; rfl
def hexI (x : Int) : Int := ((hexD x.toNat).toNat : Int)
theorem hexD_u8 (x : Int) (h : 0 ≤ x ∧ x ≤ 15) (t : TypeId) (ht : (Tryd.prog).underlying t = some .string) (k : IntKind) (w : World) :
    (Instr.index t (.string ⟨#[48, 49, 50, 51, 52, 53, 54, 55, 56, 57, 97, 98, 99, 100, 101, 102]⟩) (.int k x)).run Tryd.prog w = .ok (.int .u8 (hexI x)) w := by
  rw [run_index_string _ _ _ _ _ ht, dif_pos (by show 0 ≤ x ∧ x < 16; omega)]
  have : x = 0 ∨ x = 1 ∨ x = 2 ∨ x = 3 ∨ x = 4 ∨ x = 5 ∨ x = 6 ∨ x = 7 ∨ x = 8 ∨ x = 9 ∨ x = 10 ∨ x = 11 ∨ x = 12 ∨ x = 13 ∨ x = 14 ∨ x = 15 := by omega
  rcases this with rfl | rfl | rfl | rfl | rfl | rfl | rfl | rfl | rfl | rfl | rfl | rfl | rfl | rfl | rfl | rfl <;> rfl

set_option maxRecDepth 100000 in
theorem implHex (s : ByteArray) (w : World) (hs : s.size ≤ 1048576) : Calls Tryd.prog 36 #[.string s] w (RetVal w (str (hexL s.data.toList))) := by
  go_enter Tryd.func36, Tryd.ntmps36
  go_wp2_with fail
  go_loopw [3, 4] (fun l i wr => ∃ (k N c : Nat) (A : Option Addr), k ≤ s.size ∧ i = .int .i64 (k : Int) ∧ l = .slice A N c ∧ wr.ownsRow w.heap.size 5 1 (.slice A N c) N ((hexL (s.data.toList.take k)).map bc) ∧ Below w.heap.size w wr) (fun _ i _ => s.size - (intOf i).toNat)
  case atStart => exact ⟨0, 0, 0, _, by omega, rfl, rfl, World.ownsRow_lit (e := 5) (size := 1) w #[] 0 (Nat.le_refl _) (by unfold maxLen; omega) rfl, (Below.refl _ _).alloc (Nat.le_refl _) _⟩
  case round =>
    obtain ⟨k, N, c, A, hk, rfl, rfl, hown, hb⟩ := hrel
    have hN : N ≤ 2097152 := by
      have := hown.1
      rw [List.length_map, hexL_length, List.length_take] at this
      omega
    by_cases hlt : k < s.size
    · have hb2 := u8_lt s[k]
      have hx1 := fun X => hexD_u8 ((s[k].toNat : Int) / 16) (by omega) 9 Tryd.underlying9 .u8 X
      have hx2 := fun X => hexD_u8 ((s[k].toNat : Int) % 16) (by omega) 9 Tryd.underlying9 .u8 X
      have hw1 : IntKind.u8.wrap ((s[k].toNat : Int) / 16) = (s[k].toNat : Int) / 16 := IntWalk.u8_in _ (by omega)
      have hw2 : Int.tmod (s[k].toNat : Int) 16 = (s[k].toNat : Int) % 16 := IntWalk.rem_in _ _ (by omega)
      have hw3 : IntKind.u8.wrap ((s[k].toNat : Int) % 16) = (s[k].toNat : Int) % 16 := IntWalk.u8_in _ (by omega)
      go_wp2_with fail
      go_region_law (first | (refine step_pushes elemByte rfl (.tmp 12) (.tmp 23) _ [.int .u8 (hexI ((s[k].toNat : Int) / 16)), .int .u8 (hexI ((s[k].toNat : Int) % 16))] 2 rfl (by decide) rfl w.heap.size (.slice A N c) N _ rfl wr.heap.size 2 rfl (by exact (hown.alloc _).drew) (cells_new2 _ _ _) (oneCells rfl) (by omega) (by simp; have := hb.size; omega) ?_; intro A' c' w1 hown' hg hat))
      all_goals
        have hs := own_snoc2 (b1 := hexD (s[k].toNat / 16)) (b2 := hexD (s[k].toNat % 16)) (f := bc) hown' (by rfl) (by rfl)
        have hbw := Below.grown (w' := w1) (((hb.alloc hb.size (.cells #[.int .u8 (hexI ((s[k].toNat : Int) / 16)), .int .u8 (hexI ((s[k].toNat : Int) % 16))] 5))).drew) hg (by simp; have := hb.size; omega) (fun q hq => (hown.lt q hq).1)
        clear hx1 hx2 hw1 hw2 hw3 hg hat hown'
        go_wp2
        go_roundw
        case rel => exact ⟨k + 1, N + 2, c', A', by omega, by go_num, rfl, by rw [take_snoc s k hlt, hexL_snoc]; exact hs, hbw⟩
        case measure => simp [intOf]; omega
    · obtain rfl : k = s.size := by omega
      rw [List.take_of_length_le (by simp)] at hown
      go_wp2_with (with_reducible refine wpList_own_string (o := ⟨some 26, _, _, _, _, _⟩) rfl (.tmp 25) _ _ 5 rfl Tryd.underlying44 Tryd.underlying5 Tryd.underlying9 w.heap.size A N c _ rfl hown ?_)
      go_ret
      exact ⟨rfl, hb⟩
end Go.Proofs.YtooiobcghobefaaDoor