/-
  The walk of the law FnExactParseDep: it returns true: the program's ParseDep answers as the reference's.
  Conditions: none; every argument that can be read as data.
-/
import Derived.Test.YtgoggljmifjlfaaParD
import Derived.Test.YtgoggljmifjlfaaDeps
namespace Go.Proofs.Ytgoggljmifjlfaa.lParseDep
open Go.RowKit
set_option linter.unusedVariables false

theorem pdV_form (n : Int) (l : List UInt8) : ∃ (b : Bool) (x y : Int), pdV n l = .tuple #[.agg #[.int .i64 x, .int .i64 y], .bool b] := by
  unfold pdV
  split <;> exact ⟨_, _, _, rfl⟩
set_option maxHeartbeats 800000 in
set_option maxRecDepth 100000 in
theorem walk (n : Int) (wn : (Lit.int .i64 n).wf = true) (s : ByteArray) (ws : s.size ≤ maxLen) (M : Int) (w : World) (hM : w.cell? ⟨0, 0, none⟩ = some (.int .i64 M)) :
    Calls Try.prog 14 #[.int .i64 n, .string s] w (RetVal w (.bool true)) := by
  clear wn ws
  rw [str_of]
  generalize s.data.toList = l
  have h0 : 0 < w.heap.size := World.block_lt_of_cell? w _ hM
  by_cases hl : l.length ≤ 1048576
  · obtain ⟨b, x, y, hp⟩ := pdV_form n l
    have hi := (pd_eq n l).trans hp
    replace hp := hide hp
    replace hi := hide hi
    have heq := hide (show (((x, y) : Int × Int) == (x, y)) = true from beq_self_eq_true _)
    go_enter Try.func14, Try.ntmps14
    go_wp2_with fail
    refine (specParD n l _ hl).mono ?_
    rintro e w1 ⟨rfl, hb⟩
    rw [hp.out]
    have hM1 : ∀ o, (w1.alloc o).cell? ⟨0, 0, none⟩ = some (.int .i64 M) := fun o => by
      rw [World.cell?_alloc_lt w1 o _ (Nat.lt_of_lt_of_le h0 hb.size)]; exact (hb.cell (p := ⟨0, 0, none⟩) h0).trans hM
    replace hM1 := hide hM1
    go_wp2_with fail
    refine (implParD n l M _ hl (hM1.out _) (by simp)).mono ?_
    rintro e w2 ⟨rfl, hb1⟩
    rw [hi.out]
    obtain ⟨k0, k1, hk, hb2⟩ := box2 hb1
    replace hb := below_call hb hb2
    clear hb1 hb2 hM1 hM
    go_wp2_with fail
    refine (eqDep_any _ _ _ _ _).mono ?_
    rintro e w3 ⟨rfl, hb1⟩
    rw [heq.out]
    go_wp2_with fail
    go_ret
    exact ⟨rfl, below_call hb (below_box hb1)⟩
  · have d : decide ((1048576 : Int) < (l.length : Int)) = true := by simp; omega
    go_enter Try.func14, Try.ntmps14
    go_wp2_with fail
    go_ret
    exact ⟨rfl, Below.refl _ _⟩

end Go.Proofs.Ytgoggljmifjlfaa.lParseDep
