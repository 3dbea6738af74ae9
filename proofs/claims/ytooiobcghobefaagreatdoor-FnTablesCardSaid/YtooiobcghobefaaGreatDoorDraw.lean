/-
  The reference's draws: a cursor over bytes; what a draw answers lies within its bounds.
  Conditions: as each theorem says.
-/
import Derived.Test.YtooiobcghobefaaGreatDoorAttr
namespace Go.Proofs.YtooiobcghobefaaGreatDoor
open Go.RowKit
set_option linter.unusedVariables false

theorem and255 (v : Int) : ∃ x : Nat, x < 256 ∧ bits BinOp.and IntKind.i64 v 255 = (x : Int) := by
  refine ⟨(BitVec.ofInt 64 v).toNat &&& 255, ?_, ?_⟩
  · exact Nat.lt_of_le_of_lt Nat.and_le_right (by omega)
  · have hx : (BitVec.ofInt 64 v).toNat &&& 255 ≤ 255 := Nat.and_le_right
    show IntKind.i64.wrap ((BitVec.ofInt 64 v &&& BitVec.ofInt 64 255).toNat : Int) = _
    rw [BitVec.toNat_and, show (BitVec.ofInt 64 255).toNat = 255 from by decide, IntKind.wrap_i64]
    omega
/-- A cursor over the bytes zs in block g. -/
def CurAt (w : World) (g B : Nat) (A : Option Addr) (n c : Nat) (zs : List Int) : Prop :=
  (∃ (i : Nat) (h : Int), i ≤ n ∧ w.ownsRow B 64 1 (.slice (some ⟨g, 0, none⟩) 3 3) 3 [.slice A n c, .int .i64 (i : Int), .int .i64 h]) ∧ Reads w B A n (zs.map (Value.int .u8)) ∧ ∀ z ∈ zs, 0 ≤ z ∧ z ≤ 255
theorem grownC (w : World) (g o : Nat) (u : Value) : w.grownBy (w.setCell ⟨g, o, none⟩ u) (some g) :=
  ⟨rfl, rfl, rfl, by simp [World.setCell], fun k hk hne => Below.heap_setCell _ _ _ _ (fun e => hne (by rw [e]))⟩
theorem grownR (w : World) (r : Option Nat) : w.grownBy w r := ⟨rfl, rfl, rfl, Nat.le_refl _, fun _ _ _ => rfl⟩
theorem grownN {w w' : World} {r : Option Nat} (h : w.grownBy w' r) (k : Nat) : w.grownBy (w'.drewN k) r := ⟨h.os, h.tape, h.output, h.size, h.block⟩
/-- A draw's answer. -/
def RetC (V : Value → Prop) (w : World) (g B : Nat) (A : Option Addr) (n c : Nat) (zs : List Int) (e : Ending) (w' : World) : Prop :=
  ∃ v, e = .returned v ∧ V v ∧ CurAt w' g B A n c zs ∧ w.grownBy w' (some g)
set_option maxHeartbeats 1600000 in
set_option maxRecDepth 100000 in
theorem l1byte (g B : Nat) (A : Option Addr) (n c : Nat) (zs : List Int) (w : World) (hc : CurAt w g B A n c zs) :
    Calls Tryz.prog 58 #[.pointer (some ⟨g, 0, none⟩)] w (RetC (fun v => ∃ x : Nat, x < 256 ∧ v = .int .i64 (x : Int)) w g B A n c zs) := by
  obtain ⟨⟨i, h, hi, ho⟩, hr, hz⟩ := hc
  have hn := hr.bound
  have hgB : B ≤ g := (ho.lt g rfl).1
  have lz : zs.length = n := by have := hr.len; simpa using this
  have c2 := ho.cellAt 2 (by omega)
  have f2 := ho.frozenAt 2
  obtain ⟨H, hH⟩ : ∃ H, wrap64 (wrap64 (h * 6364136223846793005) + 1442695040888963407) = H := ⟨_, rfl⟩
  have ho2 := (ho.stored 2 (.int .i64 H)).1
  have hr2 := hr.setCell (p := ⟨g, 2, none⟩) hgB (.int .i64 H)
  have hB := (ho.lt g rfl).2
  obtain ⟨X, hX, hXe⟩ := and255 (bits .xor .i64 (H / 8589934592) (H / 35184372088832))
  obtain ⟨wa, hwa⟩ : ∃ wa, wa = w.setCell ⟨g, 2, none⟩ (.int .i64 H) := ⟨_, rfl⟩
  rw [← hwa] at ho2 hr2
  have hga : w.grownBy wa (some g) := by rw [hwa]; exact grownC _ _ _ _
  have k0 : wa.cell? ⟨g, 0, none⟩ = some (.slice A n c) := ho2.cellAt 0 (by omega)
  have k1 : wa.cell? ⟨g, 1, none⟩ = some (.int .i64 (i : Int)) := ho2.cellAt 1 (by omega)
  have k2 : wa.cell? ⟨g, 2, none⟩ = some (.int .i64 H) := ho2.cellAt 2 (by omega)
  have f1 := ho2.frozenAt 1
  have e2 : w.cell? ⟨g, 2, none⟩ = some (.int .i64 h) := c2
  clear c2
  replace ho2 : wa.ownsRow B 64 1 (.slice (some ⟨g, 0, none⟩) 3 3) 3 [.slice A n c, .int .i64 (i : Int), .int .i64 H] := ho2
  have ho2' := hide ho2
  replace lz := hide lz
  replace hz := hide hz
  replace ho := hide ho
  have hH' := hide hH
  have hwa' := hide hwa
  have hXe' := hide hXe
  clear hr hH hwa hXe ho2
  by_cases hin : i < n
  · obtain ⟨b, o, u, rfl, hbb, hu, hcb⟩ := hr2.at_ hin
    rw [List.getElem?_map] at hu
    obtain ⟨y, hy, rfl⟩ := Option.map_eq_some_iff.1 hu
    have hy255 := hz.out y (List.mem_of_getElem? hy)
    obtain ⟨Y, hY, hYe⟩ := and255 ((X : Int) + y)
    have hsum : IntKind.i64.wrap ((X : Int) + y) = (X : Int) + y := IntWalk.i64_in _ (by omega)
    have hcv : IntKind.i64.wrap y = y := IntWalk.i64_in _ (by omega)
    replace hr2 := hide hr2
    replace hu := hide hu
    replace hy := hide hy
    replace hYe := hide hYe
    replace hsum := hide hsum
    go_enter Tryz.func58, Tryz.ntmps58
    go_wp2_with fail
    rw [hH'.out, ← hwa'.out]
    have hXo := hXe'.out
    go_quiet (fail)
    go_wp2_with fail
    clear hXo
    go_quiet (fail)
    go_wp2_with fail
    have hso := hsum.out
    have hYo := hYe.out
    go_quiet (fail)
    clear hso hYo
    go_wp2_with fail
    have hst := fun k => ((show (wa.drewN k).ownsRow _ _ _ _ _ _ from ho2'.out).stored 1 (.int .i64 ((i : Int) + 1))).1
    have hrs := fun k => (show Reads (wa.drewN k) _ _ _ _ from hr2.out).setCell (p := ⟨g, 1, none⟩) hgB (.int .i64 ((i : Int) + 1))
    have hgs := fun k => (grownN hga k).trans (grownC (wa.drewN k) g 1 (.int .i64 ((i : Int) + 1)))
    go_ret
    exact ⟨_, rfl, ⟨Y, hY, rfl⟩, ⟨⟨i + 1, H, by omega, by rw [show (((i + 1 : Nat) : Int)) = (i : Int) + 1 by omega]; exact hst _⟩, hrs _, hz.out⟩, hgs _⟩
  · have hin2 : ¬ ((i : Int) < (n : Int)) := by omega
    replace hr2 := hide hr2
    go_enter Tryz.func58, Tryz.ntmps58
    go_wp2_with fail
    rw [hH'.out, ← hwa'.out]
    have hXo := hXe'.out
    go_quiet (fail)
    go_wp2_with fail
    clear hXo
    go_quiet (fail)
    go_wp2_with fail
    go_ret
    exact ⟨_, rfl, ⟨X, hX, rfl⟩, ⟨⟨i, H, by omega, ho2'.out⟩, hr2.out, hz.out⟩, grownN (grownN hga _) _⟩
end Go.Proofs.YtooiobcghobefaaGreatDoor
