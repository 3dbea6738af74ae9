/-
  A list of rows cut to its different rows by slices.CompactFunc with sameInts.
  Conditions: as each theorem says.
-/
import Derived.Test.YtooiobcghobefaaGreatDoorSrtP
import Derived.Test.YtooiobcghobefaaGreatDoorEq
import Derived.Lib.SliceRun
import Derived.Laws.IdiomCopy
namespace Go.Proofs.YtooiobcghobefaaGreatDoor
open Go.RowKit Go.Sort
set_option linter.unusedVariables false

/-- A call's own row, its first cells told. -/
theorem own_shrinkC {w : World} {B E g n c k : Nat} {xs : List Value} (h : w.ownsRow B E 1 (.slice (some ⟨g, 0, none⟩) n c) n xs) (hk : k ≤ n) : w.ownsRow B E 1 (.slice (some ⟨g, 0, none⟩) k c) k (xs.take k) := by
  obtain ⟨hl, hcase⟩ := h
  rcases hcase with ⟨hv, _⟩ | ⟨g', cap, cur, hv, hb, hg, hnc, hcm, hcs, htk⟩
  · cases hv
  cases hv
  refine ⟨by rw [List.length_take]; omega, .inr ⟨g, c, cur, rfl, hb, hg, by omega, hcm, hcs, ?_⟩⟩
  rw [← htk, List.take_take, Nat.mul_one, Nat.mul_one, Nat.min_eq_left hk]
theorem own_cap0 {w : World} {B E g n c : Nat} {xs : List Value} (h : w.ownsRow B E 1 (.slice (some ⟨g, 0, none⟩) n c) n xs) : n ≤ c := by
  rcases h.2 with ⟨hv, _⟩ | ⟨g', cap, cur, hv, hb, hg, hnc, _⟩
  · cases hv
  · cases hv; exact hnc
theorem grownS (w : World) (g o : Nat) (u : Value) : w.grownBy (w.setCell ⟨g, o, none⟩ u) (some g) :=
  ⟨rfl, rfl, rfl, by simp [World.setCell], fun k hk hne => Below.heap_setCell _ _ _ _ (fun e => hne (by rw [e]))⟩
theorem grownZ (w : World) (r : Option Nat) : w.grownBy w r := ⟨rfl, rfl, rfl, Nat.le_refl _, fun _ _ _ => rfl⟩
theorem grownD {w w' : World} {r : Option Nat} (h : w.grownBy w' r) (k : Nat) : w.grownBy (w'.drewN k) r := ⟨h.os, h.tape, h.output, h.size, h.block⟩
theorem take_set_le {xs : List Value} {o k : Nat} (v : Value) (h : k ≤ o) : (xs.set o v).take k = xs.take k := by
  apply List.ext_getElem?
  intro i
  rw [List.getElem?_take, List.getElem?_take]
  split
  · rw [List.getElem?_set_ne (by omega)]
  · rfl
theorem drop_set_lt {xs : List Value} {o k : Nat} (v : Value) (h : o < k) : (xs.set o v).drop k = xs.drop k := by
  apply List.ext_getElem?
  intro i
  rw [List.getElem?_drop, List.getElem?_drop, List.getElem?_set_ne (by omega)]
theorem take_set_succ {xs : List Value} {o : Nat} (v : Value) (h : o < xs.length) : (xs.set o v).take (o + 1) = xs.take o ++ [v] := by
  rw [List.take_add_one, take_set_le v (Nat.le_refl _), List.getElem?_set_self h]; rfl
/-- Many cells of a call's own row written: what stands ahead is as it was. -/
theorem own_setCells {B E g n c : Nat} : ∀ (vs : List Value) (o : Nat) (w : World) (xs : List Value), w.ownsRow B E 1 (.slice (some ⟨g, 0, none⟩) n c) n xs →
    ∃ xs', (w.setCells g o vs).ownsRow B E 1 (.slice (some ⟨g, 0, none⟩) n c) n xs' ∧ xs'.take o = xs.take o ∧ w.grownBy (w.setCells g o vs) (some g)
  | [], o, w, xs, h => ⟨xs, h, rfl, grownZ w _⟩
  | v :: vs, o, w, xs, h => by
    obtain ⟨xs', h1, h2, h3⟩ := own_setCells vs (o + 1) (w.setCell ⟨g, o, none⟩ v) (xs.set o v) (h.stored o v).1
    refine ⟨xs', h1, ?_, (grownS w g o v).trans h3⟩
    have := congrArg (List.take o) h2
    rw [List.take_take, List.take_take, Nat.min_eq_left (by omega), take_set_le v (Nat.le_refl _)] at this
    exact this
theorem drop_at {xs ys : List Value} {o i : Nat} (h : xs.drop o = ys.drop o) (hi : o ≤ i) : xs[i]? = ys[i]? := by
  have := congrArg (fun l => l[i - o]?) h
  simp only [List.getElem?_drop] at this
  rwa [show o + (i - o) = i by omega] at this
theorem pr_at {l : List PR} {k : Nat} (h : k < l.length) : ∃ p, l[k]? = some p := ⟨_, List.getElem?_eq_getElem h⟩
set_option maxHeartbeats 3200000 in
set_option maxRecDepth 100000 in
theorem compactF (g n c B : Nat) (ps : List PR) (w : World) (ho : w.ownsRow B 37 1 (.slice (some ⟨g, 0, none⟩) n c) n (ps.map (·.1))) (hI : Inner w B ps) (hN : n ≤ 1000000) :
    Calls Tryz.prog 42 #[.slice (some ⟨g, 0, none⟩) n c, .func (.func 33) #[] #[]] w fun e w' =>
      ∃ k, e = .returned (.slice (some ⟨g, 0, none⟩) k c) ∧ w'.ownsRow B 37 1 (.slice (some ⟨g, 0, none⟩) k c) k ((cmpP ps).map (·.1)) ∧ w.grownBy w' (some g) := by
  have lp : ps.length = n := by have := own_len ho; simpa using this
  have hnc := own_cap0 ho
  by_cases hn2 : n < 2
  · have d0 : decide ((n : Int) < 2) = true := by simp; omega
    have d0' : decide (n < 2) = true := by simp; omega
    have he := hide (show cmpP ps = ps by
      have := cmpP_one ps
      rwa [List.take_of_length_le (by omega)] at this)
    replace ho := hide ho
    replace hI := hide hI
    go_enter Tryz.func42, Tryz.ntmps42
    go_wp2_with fail
    go_ret
    exact ⟨n, rfl, by rw [he.out]; exact ho.out, grownZ _ _⟩
  have d0 : decide ((n : Int) < 2) = false := by simp; omega
  have d0' : decide (n < 2) = false := by simp; omega
  have hel : (Tryz.prog).elem 24 = 37 := by kernel_rfl
  have hslF := hide (fun (k : Nat) (h1 : 1 ≤ k) (h2 : k < n) (X : World) => show (Instr.slice 24 (.slice (some ⟨g, 0, none⟩) n c) (some (.int .i64 (k : Int))) none none).run Tryz.prog X = .ok (.slice (some ⟨g, k, none⟩) (n - k) (c - k)) X from by
    rw [run_slice_l (w := X) 24 (some ⟨g, 0, none⟩) n c (by rw [hel]; exact Tryz.underlying24) .i64 (k : Int) (by omega) (by omega), hel, Tryz.sizeOf37, Int.toNat_natCast]
    show Result.ok (Value.slice (if c = k then _ else _) (n - k) (c - k)) X = _
    rw [if_neg (by omega)]
    show Result.ok (Value.slice (some ((⟨g, 0, none⟩ : Addr).add (k * 1))) (n - k) (c - k)) X = _
    rw [add_lit, Nat.mul_one])
  have hshF := hide (fun (k : Nat) (h1 : 1 ≤ k) (h2 : k ≤ n) (X : World) => show (Instr.slice 24 (.slice (some ⟨g, 0, none⟩) n c) none (some (.int .i64 (k : Int))) none).run Tryz.prog X = .ok (.slice (some ⟨g, 0, none⟩) k c) X from by
    rw [run_slice_h (w := X) 24 (some ⟨g, 0, none⟩) n c (by rw [hel]; exact Tryz.underlying24) .i64 (k : Int) (by omega) (by omega), hel, Tryz.sizeOf37, Int.toNat_natCast]
    show Result.ok (Value.slice (if c = 0 then _ else _) (k - 0) (c - 0)) X = _
    rw [if_neg (by omega), Nat.sub_zero, Nat.sub_zero]
    show Result.ok (Value.slice (some ((⟨g, 0, none⟩ : Addr).add (0 * 1))) k c) X = _
    rw [add_lit])
  replace hel := hide hel
  replace hnc := hide hnc
  replace hI := hide hI
  have ho0 := hide ho
  have lp' := hide lp
  clear lp
  go_enter Tryz.func42, Tryz.ntmps42
  go_wp2_with fail
  go_loopw [5, 6, 7] (fun i _ _ wr => ∃ k : Nat, i = .int .i64 (k : Int) ∧ 1 ≤ k ∧ k ≤ n ∧ cmpP (ps.take k) = ps.take k ∧ wr.ownsRow B 37 1 (.slice (some ⟨g, 0, none⟩) n c) n (ps.map (·.1)) ∧ w.grownBy wr (some g)) (fun i _ _ _ => n - (intOf i).toNat)
  case atStart => exact ⟨1, rfl, by omega, by omega, cmpP_one ps, ho, grownZ _ _⟩
  case round =>
    clear ho
    obtain ⟨k, rfl, hk1, hk, hcp, ho, hg⟩ := hrel
    by_cases hlt : k < n
    · obtain ⟨wo, hwo0⟩ : ∃ wo : World, wo = wr := ⟨_, rfl⟩
      subst hwo0
      obtain ⟨j, hj⟩ : ∃ j, k = j + 1 := ⟨k - 1, by omega⟩
      have hjn : j < n := by omega
      have hw1 : IntKind.i64.wrap ((k : Int) - 1) = (j : Int) := by rw [show (k : Int) - 1 = j by omega]; exact IntWalk.i64_in _ (by omega)
      obtain ⟨b, hb⟩ := pr_at (l := ps) (k := k) (by rw [lp'.out]; exact hlt)
      obtain ⟨a, ha⟩ := pr_at (l := ps) (k := j) (by rw [lp'.out]; exact hjn)
      have hIr := hI.out.kept ho0.out hg
      obtain ⟨Ab, cb, hb1, hb2⟩ := hIr.2 b (List.mem_of_getElem? hb)
      obtain ⟨Aa, ca, ha1, ha2⟩ := hIr.2 a (List.mem_of_getElem? ha)
      have c1 : wo.cell? ⟨g, k, none⟩ = some (.slice Ab b.2.length cb) := by rw [ho.cellAt k (by omega), List.getElem?_map, hb, ← hb1]; rfl
      have c0 : wo.cell? ⟨g, j, none⟩ = some (.slice Aa a.2.length ca) := by rw [ho.cellAt j (by omega), List.getElem?_map, ha, ← ha1]; rfl
      have hcall : ∀ z, Calls Tryz.prog 33 #[.slice Ab b.2.length cb, .slice Aa a.2.length ca] (wo.drewN z) fun e w'' => e = .returned (.bool (b.2 == a.2)) ∧ ∃ m, w'' = wo.drewN m := fun z =>
        Calls.quiet_of (sameints Ab Aa b.2.length cb a.2.length ca b.2 a.2 (wo.drewN z) (Reads.of_own hb2) (Reads.of_own ha2))
      have hcs : cmpP (ps.take (k + 1)) = cmpP (ps.take k) ++ (if b.2 == a.2 then [] else [b]) := by
        subst hj
        exact cmpP_step ha hb
      have htk : ps.take (k + 1) = ps.take k ++ [b] := take_snoc2 hb
      generalize b.2.length = lb at c1 hcall hb1 hb2
      generalize a.2.length = la at c0 hcall ha1 ha2
      replace ho := hide ho
      replace ha := hide ha
      replace hb := hide hb
      replace hj := hide hj
      clear hIr hb1 hb2 ha1 ha2
      rcases heq : (b.2 == a.2) with _ | _
      · rw [heq] at hcall hcs
        rw [if_neg (by simp), hcp, ← htk] at hcs
        replace hcs := hide hcs
        replace hcall := hide hcall
        replace heq := hide heq
        replace hcp := hide hcp
        replace htk := hide htk
        go_wp2_with fail
        go_quiet ((go_at_call 33; exact hcall.out _))
        go_wp2_with fail
        go_roundw
        case rel => exact ⟨k + 1, by go_num, by omega, by omega, hcs.out, ho.out, grownD hg _⟩
        case measure => simp [intOf]; omega
      · rw [heq] at hcall hcs
        rw [if_pos rfl, List.append_nil, hcp] at hcs
        have hsl := hslF.out k hk1 hlt
        have hk0 := hide hcs
        replace hcall := hide hcall
        replace heq := hide heq
        replace hcp := hide hcp
        replace htk := hide htk
        clear hcs
        go_wp2_with fail
        go_quiet ((go_at_call 33; exact hcall.out _))
        go_wp2_with fail
        clear c0 c1 hw1
        go_loopw [5, 7] (fun i q wq => ∃ (kk k2 : Nat) (cs : List Value), i = .int .i64 (kk : Int) ∧ q = .int .i64 (k2 : Int) ∧ 1 ≤ k2 ∧ k + k2 ≤ n ∧ k ≤ kk ∧ kk + 1 ≤ k + k2 ∧ wq.ownsRow B 37 1 (.slice (some ⟨g, 0, none⟩) n c) n cs ∧ cs.take kk = (cmpP (ps.take (k + k2))).map (·.1) ∧ cs.drop (k + k2 - 1) = (ps.map (·.1)).drop (k + k2 - 1) ∧ w.grownBy wq (some g)) (fun _ q _ => n - (intOf q).toNat)
        case atStart => exact ⟨k, 1, ps.map (fun p : PR => p.1), rfl, rfl, by omega, by omega, by omega, by omega, (show (wo.drewN nq).ownsRow B 37 1 (.slice (some ⟨g, 0, none⟩) n c) n (ps.map (fun p : PR => p.1)) from ho.out), by rw [hk0.out, List.map_take], rfl, grownD hg _⟩
        case round =>
          clear hk0 hcall hsl
          obtain ⟨kk, k2, cs, rfl, rfl, h21, hle, hkk, hkl, ho2, htake, hdrop, hg2⟩ := hrel
          have lcs := own_len ho2
          by_cases hlt2 : k + k2 < n
          · obtain ⟨j2, hj2⟩ : ∃ j2, k2 = j2 + 1 := ⟨k2 - 1, by omega⟩
            have hw2 : IntKind.i64.wrap ((k2 : Int) - 1) = (j2 : Int) := by rw [show (k2 : Int) - 1 = j2 by omega]; exact IntWalk.i64_in _ (by omega)
            obtain ⟨b2, hb⟩ := pr_at (l := ps) (k := k + k2) (by rw [lp'.out]; exact hlt2)
            obtain ⟨a2, ha⟩ := pr_at (l := ps) (k := k + j2) (by rw [lp'.out]; omega)
            have hIr := hI.out.kept ho0.out hg2
            obtain ⟨Ab2, cb2, hb1, hb2⟩ := hIr.2 b2 (List.mem_of_getElem? hb)
            obtain ⟨Aa2, ca2, ha1, ha2⟩ := hIr.2 a2 (List.mem_of_getElem? ha)
            have c1 : wr.cell? ⟨g, k + k2, none⟩ = some (.slice Ab2 b2.2.length cb2) := by rw [ho2.cellAt (k + k2) (by omega), drop_at hdrop (by omega), List.getElem?_map, hb, ← hb1]; rfl
            have c0 : wr.cell? ⟨g, k + j2, none⟩ = some (.slice Aa2 a2.2.length ca2) := by rw [ho2.cellAt (k + j2) (by omega), drop_at hdrop (by omega), List.getElem?_map, ha, ← ha1]; rfl
            have hcall : ∀ z, Calls Tryz.prog 33 #[.slice Ab2 b2.2.length cb2, .slice Aa2 a2.2.length ca2] (wr.drewN z) fun e w'' => e = .returned (.bool (b2.2 == a2.2)) ∧ ∃ m, w'' = wr.drewN m := fun z =>
              Calls.quiet_of (sameints Ab2 Aa2 b2.2.length cb2 a2.2.length ca2 b2.2 a2.2 (wr.drewN z) (Reads.of_own hb2) (Reads.of_own ha2))
            have hcs : cmpP (ps.take (k + k2 + 1)) = cmpP (ps.take (k + k2)) ++ (if b2.2 == a2.2 then [] else [b2]) := by
              subst hj2
              exact cmpP_step (j := k + j2) ha hb
            obtain ⟨ck, hck⟩ : ∃ v, wr.cell? ⟨g, kk, none⟩ = some v := cell_own ho2 (by omega)
            have fk := ho2.frozenAt kk
            have hb1' : b2.1 = .slice Ab2 b2.2.length cb2 := hb1
            generalize b2.2.length = lb2 at c1 hcall hb1 hb2 hb1'
            generalize a2.2.length = la2 at c0 hcall ha1 ha2
            have d1 : decide ((k2 : Int) < ((n - k : Nat) : Int)) = true := by simp; omega
            have d1' : decide (k2 < n - k) = true := by simp; omega
            have d2 : (k2 : Int) < ((n - k : Nat) : Int) := by omega
            have d3 : (j2 : Int) < ((n - k : Nat) : Int) := by omega
            replace ho2 := hide ho2
            replace ha := hide ha
            replace hb := hide hb
            replace hj2 := hide hj2
            replace htake := hide htake
            replace hdrop := hide hdrop
            replace hb1' := hide hb1'
            replace lcs := hide lcs
            clear hIr hb1 hb2 ha1 ha2
            rcases heq2 : (b2.2 == a2.2) with _ | _
            · rw [heq2] at hcall hcs
              rw [if_neg (by simp)] at hcs
              replace hcs := hide hcs
              replace hcall := hide hcall
              replace heq2 := hide heq2
              go_wp2_with fail
              go_quiet ((go_at_call 33; exact hcall.out _))
              go_wp2_with fail
              go_roundw
              case rel =>
                refine ⟨kk + 1, k2 + 1, cs.set kk (.slice Ab2 lb2 cb2), by go_num, by go_num, by omega, by omega, by omega, by omega, ((show (wr.drewN nq).ownsRow _ _ _ _ _ _ from ho2.out).stored kk (.slice Ab2 lb2 cb2)).1, ?_, ?_, (grownD hg2 nq).trans (grownS _ g kk _)⟩
                · rw [take_set_succ _ (by have := lcs.out; omega), htake.out, show k + (k2 + 1) = k + k2 + 1 by omega, hcs.out, List.map_append, ← hb1'.out]; rfl
                · rw [drop_set_lt _ (by omega), show k + (k2 + 1) - 1 = k + k2 - 1 + 1 by omega, ← List.drop_drop, hdrop.out, List.drop_drop]
              case measure => simp [intOf]; omega
            · rw [heq2] at hcall hcs
              rw [if_pos rfl, List.append_nil] at hcs
              replace hcs := hide hcs
              replace hcall := hide hcall
              replace heq2 := hide heq2
              go_wp2_with fail
              go_quiet ((go_at_call 33; exact hcall.out _))
              go_wp2_with fail
              go_roundw
              case rel =>
                refine ⟨kk, k2 + 1, cs, rfl, by go_num, by omega, by omega, by omega, by omega, ho2.out, ?_, ?_, grownD hg2 _⟩
                · rw [htake.out, show k + (k2 + 1) = k + k2 + 1 by omega, hcs.out]
                · rw [show k + (k2 + 1) - 1 = k + k2 - 1 + 1 by omega, ← List.drop_drop, hdrop.out, List.drop_drop]
              case measure => simp [intOf]; omega
          · have hend : k + k2 = n := by omega
            have hwh := hide (show (ps.take (k + k2)) = ps from List.take_of_length_le (by rw [lp'.out]; omega))
            have hcl : ∀ ty, (Builtin.clear_ #[24] ty #[.slice (some ⟨g, kk, none⟩) (n - kk) (c - kk)]).run Tryz.prog wr = .ok (.tuple #[]) (wr.setCells g kk (List.replicate (n - kk) (.slice none 0 0))) := fun ty =>
              Lib.run_clear_slice wr 24 37 ty _ Tryz.underlying24 Tryz.zeroValue37 rfl rfl g kk _ _ (by omega) (fun q hq => by obtain ⟨v, hv⟩ := cell_own ho2 (k := kk + q) (by omega); rw [hv]; rfl) (fun q hq => ho2.frozenAt (kk + q))
            obtain ⟨xs', hx1, hx2, hx3⟩ := own_setCells (List.replicate (n - kk) (.slice none 0 0)) kk wr cs ho2
            have hsl := hslF.out kk (by omega) (by omega)
            have hsh := hshF.out kk (by omega) (by omega)
            have d1 : decide ((k2 : Int) < ((n - k : Nat) : Int)) = false := by simp; omega
            have d1' : decide (k2 < n - k) = false := by simp; omega
            have hfin := own_shrinkC hx1 (k := kk) (by omega)
            rw [hx2, htake, hwh.out] at hfin
            obtain ⟨wz, hwz⟩ : ∃ wz, wz = wr.setCells g kk (List.replicate (n - kk) (.slice none 0 0)) := ⟨_, rfl⟩
            rw [← hwz] at hcl hfin hx3
            replace hwz := hide hwz
            replace hfin := hide hfin
            replace ho2 := hide ho2
            replace htake := hide htake
            replace hdrop := hide hdrop
            clear hx1 hx2
            go_wp2_with fail
            go_ret
            exact ⟨kk, rfl, hfin.out, hg2.trans hx3⟩
    · obtain rfl : k = n := by omega
      have he := hide (show cmpP ps = ps by rwa [List.take_of_length_le (by rw [lp'.out]; exact Nat.le_refl _)] at hcp)
      replace ho := hide ho
      replace hcp := hide hcp
      go_wp2_with fail
      go_ret
      exact ⟨k, rfl, by rw [he.out]; exact ho.out, hg⟩
end Go.Proofs.YtooiobcghobefaaGreatDoor
