/-
  The reference's order of rows, and merging.
  Conditions: as each theorem says.
-/
import Derived.Maps.AppendAt
import Derived.Test.YtooiobcghobefaaGreatDoorOnceP
import Derived.Test.YtooiobcghobefaaGreatDoorRows0
import Derived.Test.YtooiobcghobefaaGreatDoorAttr
namespace Go.Proofs.YtooiobcghobefaaGreatDoor
open Go.RowKit
set_option linter.unusedVariables false

theorem wpList_spreadS {P : Program} {t e : TypeId} {z : Value} {bytes : Nat} (EI : Elem P t e z bytes) {ops : Array Oper} {rest : List Oper} {o : Oper} {a : Act} {Q : Exit → Act → World → Prop} (hgd : o.guard = none)
    (s x : Operand) (w : World) (A0 : Option Addr) (m c0 : Nat) (us : List Value) (hr : Reads w w.heap.size A0 m us) (hA : A0 = none → c0 = 0) (ho : o.op = .call { callee := .builtin .append, args := #[s, x], argTypes := #[t, t] })
    (base : Nat) (v : Value) (n : Nat) (xs : List Value) (hs : a.eval s = v) (hx : a.eval x = .slice A0 m c0) (hown : w.ownsRow base e 1 v n xs) (hu : ∀ u ∈ us, u.oneCell' = true)
    (hn : n + m ≤ 4000000000) (hbase : base ≤ w.heap.size)
    (h : ∀ A c w', w'.ownsRow base e 1 (.slice A (n + m) c) (n + m) (xs ++ us) → w.grownBy w' v.ownBlock → wpList P ops Q rest (a.put o.dst (.slice A (n + m) c)) w') :
    wpList P ops Q (o :: rest) a w := by
  obtain ⟨i, hi, hz, hz1, hz2⟩ := info_parts EI.info
  have hby : (n + m) * bytes ≤ 140737488355328 := Nat.le_trans (Nat.mul_le_mul_left _ EI.pos) (by omega)
  have fin : ∀ (v' : Value) (w' : World), w'.ownsRow base e 1 v' (n + m) (xs ++ us) → ∃ A c, v' = Value.slice A (n + m) c := by
    intro v' w' h1
    rcases h1.2 with ⟨hv, h0⟩ | ⟨g, cap, cur, hv, _⟩
    · exact ⟨none, 0, by rw [hv, h0]⟩
    · exact ⟨_, _, hv⟩
  cases A0 with
  | none =>
    have hm : m = 0 := by
      rcases Nat.eq_zero_or_pos m with h0 | h0
      · exact h0
      · obtain ⟨_, _, _, e, _⟩ := hr.at_ h0; cases e
    subst hm
    have hc := hA rfl
    subst hc
    have hus : us = [] := List.length_eq_zero_iff.1 hr.len
    subst hus
    refine wpList_plain hgd fun K hK => ?_
    have hrun := run_append_owned_none (P := P) (w := w) base t o.type e i 1 EI.under hi v n xs hown
    obtain ⟨A, c, hv⟩ := fin v w (by rw [Nat.add_zero, List.append_nil]; exact hown)
    unfold Oper.wp
    simp [execOp, ho, resolve, invoke, builtin, hs, hx, hrun, Result.andThen]
    rw [hv]
    refine hK _ _ (h A c w (by rw [← hv, Nat.add_zero, List.append_nil]; exact hown) ?_)
    exact ⟨rfl, rfl, rfl, Nat.le_refl _, fun _ _ _ => rfl⟩
  | some ad =>
    have hcell : ∀ j u, us[j]? = some u → w.cell? (ad.add j) = some u := by
      intro j u hj
      have hl := (List.getElem?_eq_some_iff.1 hj).1
      obtain ⟨b, o', u', e1, hb, hu', hc⟩ := hr.at_ (k := j) (by have := hr.len; omega)
      cases e1
      rw [hj] at hu'
      cases hu'
      rw [show (⟨b, o', none⟩ : Addr).add j = ⟨b, o' + j, none⟩ by unfold Addr.add; split <;> simp_all]
      exact hc
    refine wpList_append_own_at w hgd s x t ho base e i z 1 bytes EI.under hi hz hz1 hz2 EI.one (by decide) v n xs hs hown ad m c0 us hx (by have := hr.len; omega) hcell hu (by unfold maxLen; omega) hby hbase ?_
    intro v' w' h1 h2 h3 h4
    obtain ⟨A, c, rfl⟩ := fin _ _ h1
    exact h A c w' h1 h2
theorem lexL_drop : ∀ (k : Nat) (x y : List Int), x.take k = y.take k → k ≤ x.length → k ≤ y.length → lexL x y = lexL (x.drop k) (y.drop k)
  | 0, x, y, _, _, _ => rfl
  | k + 1, [], y, _, h, _ => by simp at h
  | k + 1, a :: x, [], _, _, h => by simp at h
  | k + 1, a :: x, b :: y, h, h1, h2 => by
    rw [List.take_succ_cons, List.take_succ_cons] at h
    injection h with e1 e2
    subst e1
    rw [lexL, if_pos rfl, List.drop_succ_cons, List.drop_succ_cons]
    exact lexL_drop k x y e2 (by simpa using h1) (by simpa using h2)
set_option maxHeartbeats 1600000 in
set_option maxRecDepth 100000 in
theorem l3less (A B : Option Addr) (n c m d : Nat) (xs ys : List Int) (w : World) (hx : Reads w w.heap.size A n (xs.map (Value.int .i64))) (hy : Reads w w.heap.size B m (ys.map (Value.int .i64))) :
    Calls Tryz.prog 84 #[.slice A n c, .slice B m d] w (RetQuiet w (.bool (lexL xs ys))) := by
  have hn := hx.bound
  have hm := hy.bound
  have lx := ints_len hx
  have ly := ints_len hy
  have hd := hide (lexL_drop (x := xs) (y := ys))
  go_enter Tryz.func84, Tryz.ntmps84
  go_wp2_with fail
  go_loopw [5] (fun i wr => ∃ k q : Nat, i = .int .i64 (k : Int) ∧ k ≤ n ∧ k ≤ m ∧ xs.take k = ys.take k ∧ wr = w.drewN q) (fun i _ => n - (intOf i).toNat)
  case atStart => exact ⟨0, 0, rfl, by omega, by omega, by simp, rfl⟩
  case round =>
    obtain ⟨k, q, rfl, hk, hkm, ht, hwr⟩ := hrel
    have hz := hd.out k ht (by omega) (by omega)
    by_cases hlt : k < n
    · obtain ⟨b, o, x, rfl, hbb, hx1, hc1⟩ := at_int (show Reads wr w.heap.size A n (xs.map (Value.int .i64)) by rw [hwr]; exact hx) hlt
      have ex : xs.drop k = x :: xs.drop (k + 1) := by obtain ⟨h1, rfl⟩ := List.getElem?_eq_some_iff.1 hx1; exact List.drop_eq_getElem_cons h1
      by_cases hm1 : k < m
      · obtain ⟨b', o', y, rfl, hbb', hy1, hc2⟩ := at_int (show Reads wr w.heap.size B m (ys.map (Value.int .i64)) by rw [hwr]; exact hy) hm1
        have ey : ys.drop k = y :: ys.drop (k + 1) := by obtain ⟨h1, rfl⟩ := List.getElem?_eq_some_iff.1 hy1; exact List.drop_eq_getElem_cons h1
        rw [ex, ey, lexL] at hz
        have hnx := hide (show x = y → xs.take (k + 1) = ys.take (k + 1) from fun e => by subst e; exact take_eq_succ ht hx1 hy1)
        replace hx1 := hide hx1; replace hy1 := hide hy1; replace ht := hide ht; replace hwr := hide hwr
        replace ex := hide ex; replace ey := hide ey; replace lx := hide lx; replace ly := hide ly
        by_cases h1 : x = y
        · have hxy := hide h1
          have d1 : (x != y) = false := by rw [h1]; simp
          replace hz := hide hz
          clear h1
          go_wp2_with fail
          go_quiet (fail)
          go_wp2_with fail
          go_roundw
          case rel => exact ⟨k + 1, q + nq, by go_num, by omega, by omega, hnx.out hxy.out, by rw [hwr.out, World.drewN_drewN]⟩
          case measure => simp [intOf]; omega
        · rw [if_neg h1] at hz
          have d1 : (x != y) = true := by rw [bne_iff_ne]; exact h1
          replace hz := hide hz
          replace h1 := hide h1
          go_wp2_with fail
          go_quiet (fail)
          go_wp2_with fail
          go_quiet (fail)
          go_wp2_with fail
          go_ret
          exact ⟨ret_bool hz.out.symm, _, by rw [hwr.out, World.drewN_drewN, World.drewN_drewN]⟩
      · have ey : ys.drop k = [] := List.drop_of_length_le (by omega)
        rw [ex, ey, lexL] at hz
        have e1 : decide ((n : Int) < (m : Int)) = false := by simp; omega
        have e1' : decide (n < m) = false := by simp; omega
        replace hz := hide hz; replace ht := hide ht; replace ex := hide ex; replace ey := hide ey; replace hx1 := hide hx1; replace hwr := hide hwr
        go_wp2_with fail
        go_ret
        exact ⟨ret_bool hz.out.symm, _, hwr.out⟩
    · obtain rfl : k = n := by omega
      have ex : xs.drop k = [] := List.drop_of_length_le (by omega)
      by_cases hm1 : k < m
      · have hlm : k < ys.length := by omega
        rw [ex, List.drop_eq_getElem_cons hlm, lexL] at hz
        have d1 : decide ((k : Int) < (m : Int)) = true := by simp; omega
        have d1' : decide (k < m) = true := by simp; omega
        replace hz := hide hz; replace ht := hide ht; replace ex := hide ex; replace hwr := hide hwr
        go_wp2_with fail
        go_ret
        exact ⟨ret_bool hz.out.symm, _, hwr.out⟩
      · have ey : ys.drop k = [] := List.drop_of_length_le (by omega)
        rw [ex, ey, lexL] at hz
        have d1 : decide ((k : Int) < (m : Int)) = false := by simp; omega
        have d1' : decide (k < m) = false := by simp; omega
        replace hz := hide hz; replace ht := hide ht; replace ex := hide ex; replace ey := hide ey; replace hwr := hide hwr
        go_wp2_with fail
        go_ret
        exact ⟨ret_bool hz.out.symm, _, hwr.out⟩
/-! ### Merging -/
/-- The rows of a list lie in another block than G. -/
def AvI (G : Nat) (w : World) (A : Option Addr) (n : Nat) : Prop := ∀ (b o k : Nat) (Ax : Option Addr) (lx cx : Nat), A = some ⟨b, o, none⟩ → k < n → w.cell? ⟨b, o + k, none⟩ = some (.slice Ax lx cx) → ∀ b' o', Ax = some ⟨b', o', none⟩ → b' ≠ G
def AvO (G : Nat) (A : Option Addr) : Prop := ∀ b o, A = some ⟨b, o, none⟩ → b ≠ G
theorem AvI.later {G n : Nat} {w w' : World} {A : Option Addr} {zss : List (List Int)} (h : AvI G w A n) (hr : RowsAt w w.heap.size A n zss) (hb : Below w.heap.size w w') : AvI G w' A n := by
  intro b o k Ax lx cx e hk hc
  obtain ⟨b', o', zs, A', c', e', hb', _⟩ := at_row hr hk
  rw [e] at e'
  cases e'
  exact h b o k Ax lx cx e hk ((hb.cell (p := ⟨b, o + k, none⟩) hb').symm.trans hc)
theorem AvI.set {G n o' : Nat} {w : World} {A : Option Addr} (u : Value) (h : AvI G w A n) (ho : AvO G A) : AvI G (w.setCell ⟨G, o', none⟩ u) A n := by
  intro b o k Ax lx cx e hk hc
  rw [World.cell?_setCell_other (h := fun q => ho b o e (by cases q; rfl))] at hc
  exact h b o k Ax lx cx e hk hc
theorem RowsAt.setAv {G n o' : Nat} {w : World} {A : Option Addr} {zss : List (List Int)} (u : Value) (h : RowsAt w w.heap.size A n zss) (hi : AvI G w A n) (ho : AvO G A) : RowsAt (w.setCell ⟨G, o', none⟩ u) (w.setCell ⟨G, o', none⟩ u).heap.size A n zss := by
  have hsz : (w.setCell ⟨G, o', none⟩ u).heap.size = w.heap.size := by simp [World.setCell]
  rw [hsz]
  obtain ⟨h1, vs, h2, h3⟩ := h
  refine ⟨h1, vs, ⟨h2.1, h2.2.1, fun h0 => ?_⟩, fun i zs hi' => ?_⟩
  · obtain ⟨b, o, e, hb, hc⟩ := h2.2.2 h0
    exact ⟨b, o, e, hb, fun j v hj => by rw [World.cell?_setCell_other (h := fun q => ho b o e (by cases q; rfl))]; exact hc j v hj⟩
  · obtain ⟨A', c', h4, h5⟩ := h3 i zs hi'
    refine ⟨A', c', h4, h5.1, h5.2.1, fun h0 => ?_⟩
    obtain ⟨b', o2, e', hb', hc'⟩ := h5.2.2 h0
    have hin : i < n := by have := (List.getElem?_eq_some_iff.1 hi').1; omega
    obtain ⟨b, o, e, hb, hc⟩ := h2.2.2 (by omega)
    have hne := hi b o i A' _ c' e hin (hc i _ h4) b' o2 e'
    exact ⟨b', o2, e', hb', fun j v hj => by rw [World.cell?_setCell_other (h := fun q => hne (by cases q; rfl))]; exact hc' j v hj⟩
/-- What reads as a row. -/
def RdRow (G : Nat) (w : World) (B : Nat) (v : Value) (zs : List Int) : Prop := ∃ (A2 : Option Addr) (c2 : Nat), v = Value.slice A2 zs.length c2 ∧ Reads w B A2 zs.length (zs.map (Value.int .i64)) ∧ AvO G A2
def RdL (G : Nat) (w : World) (B : Nat) (vs : List Value) (zss : List (List Int)) : Prop := vs.length = zss.length ∧ ∀ (i : Nat) (v : Value) (zs : List Int), vs[i]? = some v → zss[i]? = some zs → RdRow G w B v zs
theorem RdL.nil (G : Nat) (w : World) (B : Nat) : RdL G w B [] [] := ⟨rfl, fun i v zs h => by simp at h⟩
theorem RdL.snoc {G : Nat} {w : World} {B : Nat} {vs : List Value} {zss : List (List Int)} {v : Value} {zs : List Int} (h : RdL G w B vs zss) (hv : RdRow G w B v zs) : RdL G w B (vs ++ [v]) (zss ++ [zs]) := by
  refine ⟨by rw [List.length_append, List.length_append, h.1]; rfl, fun i u ys hu hy => ?_⟩
  rcases Nat.lt_or_ge i vs.length with hlt | hge
  · rw [List.getElem?_append_left hlt] at hu
    rw [List.getElem?_append_left (by have := h.1; omega)] at hy
    exact h.2 i u ys hu hy
  · rw [List.getElem?_append_right hge] at hu
    rw [List.getElem?_append_right (by have := h.1; omega)] at hy
    have hi := (List.getElem?_eq_some_iff.1 hu).1
    simp at hi
    have h0 : i - vs.length = 0 := by omega
    rw [h0] at hu
    rw [← h.1, h0] at hy
    simp at hu hy
    subst hu hy
    exact hv
/-- A list of rows that reads so. -/
def RetRd (G : Nat) (w : World) (zss : List (List Int)) (e : Ending) (w' : World) : Prop := ∃ (A : Option Addr) (n c : Nat), e = .returned (.slice A n c) ∧ RowsAt w' w'.heap.size A n zss ∧ Below w.heap.size w w' ∧ AvO G A ∧ AvI G w' A n
theorem avO_own {w : World} {B E n c G : Nat} {A : Option Addr} {xs : List Value} (h : w.ownsRow B E 1 (.slice A n c) n xs) (hG : G < B) : AvO G A := by
  intro b o e
  subst e
  have := (h.lt b rfl).1
  omega
theorem rows_of_rd {w w' : World} {G B E n c : Nat} {A : Option Addr} {vs : List Value} {zss : List (List Int)} (ho : w'.ownsRow B E 1 (.slice A n c) n vs) (hr : RdL G w w.heap.size vs zss) (hb : Below w.heap.size w w') : RowsAt w' w'.heap.size A n zss := by
  refine ⟨by have := own_len ho; have := hr.1; omega, vs, Reads.of_own ho, fun i zs hi => ?_⟩
  have hlt := (List.getElem?_eq_some_iff.1 hi).1
  have hv : vs[i]? = some (vs[i]'(by have := hr.1; omega)) := List.getElem?_eq_getElem _
  obtain ⟨A2, c2, h1, h2, _⟩ := hr.2 i _ zs hv hi
  exact ⟨A2, c2, by rw [hv, h1], (h2.below hb).more hb.size⟩
theorem avI_of_rd {w w' : World} {G B E n c : Nat} {A : Option Addr} {vs : List Value} {zss : List (List Int)} (ho : w'.ownsRow B E 1 (.slice A n c) n vs) (hr : RdL G w w.heap.size vs zss) : AvI G w' A n := by
  intro b o k Ax lx cx e hk hc b' o' ex
  obtain ⟨b2, o2, u, e2, hb2, hu, hc2⟩ := (Reads.of_own ho).at_ hk
  rw [e] at e2
  cases e2
  rw [hc] at hc2
  cases hc2
  have hl := (List.getElem?_eq_some_iff.1 hu).1
  obtain ⟨A2, c2, h1, h2, h3⟩ := hr.2 k _ _ hu (List.getElem?_eq_getElem (by have := hr.1; omega))
  injection h1 with q1
  exact h3 b' o' (q1 ▸ ex)
end Go.Proofs.YtooiobcghobefaaGreatDoor
