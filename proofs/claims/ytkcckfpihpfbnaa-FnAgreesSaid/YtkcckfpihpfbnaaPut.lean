/-
  The reference's ordered insertion; the tests that a list holds sets.
  Conditions: as each theorem says.
-/
import Derived.Test.YtkcckfpihpfbnaaDistP
import Derived.Test.YtkcckfpihpfbnaaPart
namespace Go.Proofs.Ytkcckfpihpfbnaa
open Go.RowKit
set_option linter.unusedVariables false

def RetPut (B : Nat) (w : World) (xs : List Int) (x : Int) (e : Ending) (w' : World) : Prop :=
  ∃ A N d ys, PutP xs x ys ∧ e = .returned (.slice A N d) ∧ w'.ownsRow B 3 1 (.slice A N d) N (ys.map (Value.int .i64)) ∧ Below w.heap.size w w'
theorem PutP.has {xs : List Int} {x : Int} (h : hasR xs x = true) : PutP xs x xs := by
  have hm : x ∈ xs := by simpa [hasR] using h
  refine ⟨fun hs => ⟨hs, fun z => ⟨.inl, ?_⟩⟩, by omega⟩
  rintro (h | rfl)
  · exact h
  · exact hm
theorem PutP.at_ {xs : List Int} {x : Int} {j : Nat} (hno : hasR xs x = false) (hj : j ≤ xs.length) (hl : ∀ i z, i < j → xs[i]? = some z → z ≤ x) (hr : ∀ z, xs[j]? = some z → x < z) : PutP xs x (xs.take j ++ x :: xs.drop j) := by
  have hm : x ∉ xs := by simpa [hasR] using hno
  exact ⟨fun hs => put_ok hs hm hj hl hr, by simp; omega⟩
theorem PutP.end_ {xs : List Int} {x : Int} (hno : hasR xs x = false) (hl : ∀ i z, i < xs.length → xs[i]? = some z → z ≤ x) : PutP xs x (xs ++ [x]) := by
  have := PutP.at_ (j := xs.length) hno (Nat.le_refl _) hl (fun z hz => by rw [List.getElem?_eq_none (Nat.le_refl _)] at hz; cases hz)
  rwa [List.take_length, List.drop_length] at this
/-- What lies in 'out' behind k rounds. -/
def PutInv (xs : List Int) (x : Int) (k : Nat) (pb : Bool) (ys : List Int) : Prop :=
  (pb = false ∧ ys = xs.take k ∧ ∀ i z, i < k → xs[i]? = some z → z ≤ x) ∨
  (pb = true ∧ ∃ j, j < k ∧ ys = xs.take j ++ x :: (xs.drop j).take (k - j) ∧ (∀ i z, i < j → xs[i]? = some z → z ≤ x) ∧ ∀ z, xs[j]? = some z → x < z)
theorem PutInv.len {xs ys : List Int} {x : Int} {k : Nat} {pb : Bool} (h : PutInv xs x k pb ys) : ys.length ≤ k + 1 := by
  rcases h with ⟨rfl, rfl, _⟩ | ⟨rfl, j, hj, rfl, _⟩ <;> simp <;> omega
theorem PutInv.skip {xs ys : List Int} {x y : Int} {k : Nat} (h : PutInv xs x k false ys) (hk : xs[k]? = some y) (hy : y ≤ x) : PutInv xs x (k + 1) false (ys ++ [y]) := by
  rcases h with ⟨_, rfl, h⟩ | ⟨h, _⟩
  · refine .inl ⟨rfl, by rw [List.take_add_one, hk]; rfl, fun i z hi hz => ?_⟩
    rcases Nat.lt_or_ge i k with h1 | h1
    · exact h i z h1 hz
    · obtain rfl : i = k := by omega
      rw [hk] at hz; cases hz; exact hy
  · cases h
theorem PutInv.here {xs ys : List Int} {x y : Int} {k : Nat} (h : PutInv xs x k false ys) (hk : xs[k]? = some y) (hy : x < y) : PutInv xs x (k + 1) true (ys ++ [x] ++ [y]) := by
  rcases h with ⟨_, rfl, h⟩ | ⟨h, _⟩
  · refine .inr ⟨rfl, k, by omega, ?_, h, fun z hz => by rw [hk] at hz; cases hz; exact hy⟩
    have hlt := (List.getElem?_eq_some_iff.1 hk).1
    have hyk := (List.getElem?_eq_some_iff.1 hk).2
    rw [show k + 1 - k = 1 by omega, List.drop_eq_getElem_cons hlt, hyk]
    simp
  · cases h
theorem PutInv.past {xs ys : List Int} {x y : Int} {k : Nat} (h : PutInv xs x k true ys) (hk : xs[k]? = some y) : PutInv xs x (k + 1) true (ys ++ [y]) := by
  rcases h with ⟨h, _⟩ | ⟨_, j, hj, rfl, h1, h2⟩
  · cases h
  · refine .inr ⟨rfl, j, by omega, ?_, h1, h2⟩
    rw [show k + 1 - j = (k - j) + 1 by omega, List.take_add_one, List.getElem?_drop, show j + (k - j) = k by omega, hk]
    simp
theorem PutInv.done_in {xs ys : List Int} {x : Int} (h : PutInv xs x xs.length true ys) (hno : hasR xs x = false) : PutP xs x ys := by
  rcases h with ⟨h, _⟩ | ⟨_, j, hj, rfl, h1, h2⟩
  · cases h
  · rw [List.take_of_length_le (l := xs.drop j) (by simp)]
    exact PutP.at_ hno (by omega) h1 h2
theorem PutInv.done_out {xs ys : List Int} {x : Int} (h : PutInv xs x xs.length false ys) (hno : hasR xs x = false) : PutP xs x (ys ++ [x]) := by
  rcases h with ⟨_, rfl, h1⟩ | ⟨h, _⟩
  · rw [List.take_length]; exact PutP.end_ hno h1
  · cases h
set_option maxHeartbeats 1600000 in
set_option maxRecDepth 100000 in
theorem l4put (B : Nat) (A : Option Addr) (n c : Nat) (xs : List Int) (x : Int) (w : World) (h : w.ownsRow B 3 1 (.slice A n c) n (xs.map (Value.int .i64))) (hn : n ≤ 1000000000) (hB : B ≤ w.heap.size) :
    Calls Try.prog 81 #[.slice A n c, .int .i64 x] w (RetPut B w xs x) := by
  have hr := Reads.of_own h
  have lx := ints_len hr
  rcases hh : hasR xs x with _ | _
  · have hh' := hide hh
    have lx' := hide lx
    clear lx
    go_enter Try.func81, Try.ntmps81
    go_wp2_with fail
    refine (l2has _ _ _ xs x _ hr).mono ?_
    rintro e w1 ⟨rfl, rfl⟩
    rw [hh]
    replace h := hide h
    clear hh
    go_wp2_with fail
    go_loopw [5, 6, 7] (fun out pl i wr => ∃ (k N d : Nat) (A' : Option Addr) (ys : List Int) (pb : Bool), k ≤ n ∧ i = .int .i64 (k : Int) ∧ out = .slice A' N d ∧ pl = .bool pb ∧ wr.ownsRow w.heap.size 3 1 (.slice A' N d) N (ys.map (Value.int .i64)) ∧ Below w.heap.size w wr ∧ PutInv xs x k pb ys) (fun _ _ i _ => n - (intOf i).toNat)
    case atStart => exact ⟨0, 0, 0, _, [], false, by omega, rfl, rfl, rfl, own_start w _, (Below.refl _ _).alloc (Nat.le_refl _) _, .inl ⟨rfl, by simp, fun i z hi => absurd hi (by omega)⟩⟩
    case round =>
      obtain ⟨k, N, d, A', ys, pb, hk, rfl, rfl, rfl, hown, hb, hinv⟩ := hrel
      have hN : N ≤ n + 1 := by have h1 := own_len hown; rw [List.length_map] at h1; have := hinv.len; omega
      by_cases hlt : k < n
      · obtain ⟨b, o, y, rfl, hbb, hy, hc⟩ := at_int (hr.below hb) hlt
        rcases pb with _ | _
        · by_cases hxy : x < y
          · have hnext := hide (hinv.here hy hxy)
            have d1 : decide (x < y) = true := by simpa using hxy
            replace hinv := hide hinv
            replace hy := hide hy
            go_wp2_with (first
              | (at_builtin; refine wpList_push elemInt rfl (.tmp 29) (.tmp 31) wr (.int .i64 x) rfl w.heap.size (.slice A' N d) N _ rfl rfl hown rfl (by omega) hb.size ?_; intro A1 c1 w1 hown1 hg1 hat1; have hb1 := below_push hb hb.size hown hg1; have hc1 : w1.cell? ⟨b, o + k, none⟩ = some (.int .i64 y) := (hb1.cell (p := ⟨b, o + k, none⟩) hbb).trans ((hb.cell (p := ⟨b, o + k, none⟩) hbb).symm.trans hc))
              | (at_builtin; refine wpList_push elemInt rfl (.tmp 33) (.tmp 38) w1 (.int .i64 y) rfl w.heap.size (.slice A1 (N + 1) c1) (N + 1) _ rfl rfl hown1 rfl (by omega) hb1.size ?_; intro A2 c2 w2 hown2 hg2 hat2; have hb2 := below_push hb1 hb1.size hown1 hg2))
            go_roundw
            case rel => exact ⟨k + 1, N + 1 + 1, c2, A2, _, true, by omega, by go_num, rfl, rfl, by rw [List.map_append, List.map_append]; exact hown2, hb2, hnext.out⟩
            case measure => simp [intOf]; omega
          · have hnext := hide (hinv.skip hy (by omega))
            have d1 : decide (x < y) = false := by simp; omega
            replace hinv := hide hinv
            replace hy := hide hy
            go_wp2_with (at_builtin; refine wpList_push elemInt rfl (.tmp 33) (.tmp 38) wr (.int .i64 y) rfl w.heap.size (.slice A' N d) N _ rfl rfl hown rfl (by omega) hb.size ?_; intro A2 c2 w2 hown2 hg2 hat2; have hb2 := below_push hb hb.size hown hg2)
            go_roundw
            case rel => exact ⟨k + 1, N + 1, c2, A2, _, false, by omega, by go_num, rfl, rfl, by rw [List.map_append]; exact hown2, hb2, hnext.out⟩
            case measure => simp [intOf]; omega
        · have hnext := hide (hinv.past hy)
          replace hinv := hide hinv
          replace hy := hide hy
          go_wp2_with (at_builtin; refine wpList_push elemInt rfl (.tmp 33) (.tmp 38) wr (.int .i64 y) rfl w.heap.size (.slice A' N d) N _ rfl rfl hown rfl (by omega) hb.size ?_; intro A2 c2 w2 hown2 hg2 hat2; have hb2 := below_push hb hb.size hown hg2)
          go_roundw
          case rel => exact ⟨k + 1, N + 1, c2, A2, _, true, by omega, by go_num, rfl, rfl, by rw [List.map_append]; exact hown2, hb2, hnext.out⟩
          case measure => simp [intOf]; omega
      · obtain rfl : k = n := by omega
        have hke := lx'.out
        rw [← hke] at hinv
        rcases pb with _ | _
        · have hP := hide (hinv.done_out hh'.out)
          replace hinv := hide hinv
          replace hke := hide hke
          go_wp2_with (at_builtin; refine wpList_push elemInt rfl (.tmp 42) (.tmp 44) wr (.int .i64 x) rfl w.heap.size (.slice A' N d) N _ rfl rfl hown rfl (by omega) hb.size ?_; intro A2 c2 w2 hown2 hg2 hat2; have hb2 := below_push hb hb.size hown hg2)
          go_ret
          exact ⟨A2, N + 1, c2, _, hP.out, rfl, by rw [List.map_append]; exact own_more hown2 hB, hb2⟩
        · have hP := hide (hinv.done_in hh'.out)
          replace hinv := hide hinv
          replace hke := hide hke
          go_wp2_with fail
          go_ret
          exact ⟨A', N, d, _, hP.out, rfl, own_more hown hB, hb⟩
  · have hP := hide (PutP.has hh)
    clear lx
    go_enter Try.func81, Try.ntmps81
    go_wp2_with fail
    refine (l2has _ _ _ xs x _ hr).mono ?_
    rintro e w1 ⟨rfl, rfl⟩
    rw [hh]
    clear hh
    replace h := hide h
    go_wp2_with fail
    go_ret
    exact ⟨A, n, c, xs, hP.out, rfl, h.out, Below.refl _ _⟩
end Go.Proofs.Ytkcckfpihpfbnaa
