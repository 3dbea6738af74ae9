/-
  Walks of IsPartition, in the program and in the reference.
  Conditions: as each theorem says.
-/
import Derived.Test.YtkcckfpihpfbnaaPart
namespace Go.Proofs.Ytkcckfpihpfbnaa
open Go.RowKit
set_option linter.unusedVariables false

def ElP (R : Int) (seen zs : List Int) (k : Nat) (x : Int) : Prop := 0 ≤ x ∧ x ≤ R ∧ (∀ y, 0 < k → zs[k-1]? = some y → y < x) ∧ x ∉ seen
def ClsP (R : Int) (p : List (List Int)) (i : Nat) (zs : List Int) : Prop :=
  2 ≤ zs.length ∧ (∀ h ys g, zs[0]? = some h → 0 < i → p[i-1]? = some ys → ys[0]? = some g → g < h) ∧ ∀ (k : Nat) (x : Int), zs[k]? = some x → ElP R (p.take i).flatten zs k x
def PartP (R : Int) (p : List (List Int)) : Prop := ∀ (i : Nat) (zs : List Int), p[i]? = some zs → ClsP R p i zs
open Classical in
noncomputable def prtB (R rows : Int) (p : List (List Int)) : Bool := decide (PartP R p) && (decide (0 ≤ rows) && decide (rows ≤ 40))
theorem prtB_no {R rows : Int} {p : List (List Int)} (h : ¬ PartP R p) : prtB R rows p = false := by simp [prtB, h]
theorem prtB_yes {R rows : Int} {p : List (List Int)} (h : PartP R p) : prtB R rows p = (decide (0 ≤ rows) && decide (rows ≤ 40)) := by simp [prtB, h]
theorem partP_step {R : Int} {p : List (List Int)} {i : Nat} {zs : List Int} (h : ∀ (j : Nat) (ys : List Int), j < i → p[j]? = some ys → ClsP R p j ys) (hz : p[i]? = some zs) (hc : ClsP R p i zs) :
    ∀ (j : Nat) (ys : List Int), j < i + 1 → p[j]? = some ys → ClsP R p j ys := by
  intro j ys hj hys
  rcases Nat.lt_or_ge j i with hlt | hge
  · exact h j ys hlt hys
  · obtain rfl : j = i := by omega
    rw [hz] at hys
    obtain rfl := Option.some.inj hys
    exact hc
/-- Of a class that grows, all that stands before an element is less. -/
theorem inc_lt {zs : List Int} : ∀ (k : Nat) (x : Int), (∀ (j : Nat) (v : Int), j < k → zs[j]? = some v → ∀ y, 0 < j → zs[j-1]? = some y → y < v) → zs[k]? = some x → (∀ y, 0 < k → zs[k-1]? = some y → y < x) → ∀ y ∈ zs.take k, y < x
  | 0, x, _, _, _ => by simp
  | k+1, x, h, hx, hp => by
    have hk := (List.getElem?_eq_some_iff.1 hx).1
    obtain ⟨v, hv⟩ : ∃ v, zs[k]? = some v := ⟨_, List.getElem?_eq_getElem (by omega)⟩
    have h1 := hp v (by omega) (by simpa using hv)
    have h2 := inc_lt k v (fun j u hj => h j u (by omega)) hv (fun y h0 hy => h k v (by omega) hv y h0 hy)
    intro y hy
    rw [List.take_add_one, hv] at hy
    simp at hy
    rcases hy with hy | rfl
    · have := h2 y hy; omega
    · exact h1
theorem hasR_iff {zs : List Int} {x : Int} : hasR zs x = true ↔ x ∈ zs := by simp [hasR]
theorem hasR_no {zs : List Int} {x : Int} (h : hasR zs x = false) : x ∉ zs := by
  intro hm; rw [← hasR_iff, h] at hm; cases hm
theorem flat_succ {p : List (List Int)} {i : Nat} {zs : List Int} (hz : p[i]? = some zs) : (p.take (i + 1)).flatten = (p.take i).flatten ++ zs := by
  rw [List.take_add_one, hz]; simp

theorem lens_flat (p : List (List Int)) : lens p = p.flatten.length := by simp [lens, List.length_flatten]
theorem el_step {R : Int} {seen zs : List Int} {q : Nat} {x : Int} (h : ∀ (i : Nat) (v : Int), i < q → zs[i]? = some v → ElP R seen zs i v) (hx : zs[q]? = some x) (hc : ElP R seen zs q x) :
    ∀ (i : Nat) (v : Int), i < q + 1 → zs[i]? = some v → ElP R seen zs i v := by
  intro j v hj hv
  rcases Nat.lt_or_ge j q with hlt | hge
  · exact h j v hlt hv
  · obtain rfl : j = q := by omega
    rw [hx] at hv
    obtain rfl := Option.some.inj hv
    exact hc

set_option maxHeartbeats 4000000 in
set_option maxRecDepth 100000 in
theorem specIsP (A : Option Addr) (n c : Nat) (p : List (List Int)) (rows R : Int) (w : World) (h : RowsAt w w.heap.size A n p) (hs : n + lens p ≤ 1048576) (hR : IntKind.i64.wrap (rows - 1) = R) :
    Calls Try.prog 95 #[.slice A n c, .int .i64 rows] w (RetVal w (.bool (prtB R rows p))) := by
  have hn := rows_bound h
  have lz := h.1
  have hne : ∀ i zs, p[i]? = some zs → lens (p.take i) + zs.length ≤ 1048576 := fun i zs hz => by
    have h1 := lens_take_succ hz
    have h2 := lens_take_le p (i + 1)
    omega
  replace hne := hide hne
  replace lz := hide lz
  replace hs := hide hs
  go_enter Try.func95, Try.ntmps95
  go_wp2_with fail
  go_loopw [5, 6, 7, 8] (fun s l i _ wr => ∃ (k N d : Nat) (A' : Option Addr) (la : Int), k ≤ n ∧ i = .int .i64 (k : Int) ∧ s = .slice A' N d ∧ wr.ownsRow w.heap.size 3 1 (.slice A' N d) N ((p.take k).flatten.map (Value.int .i64)) ∧ Below w.heap.size w wr ∧ l = .int .i64 la ∧ ((k = 0 ∧ la = -1) ∨ (0 < k ∧ ∃ ys, p[k-1]? = some ys ∧ ys[0]? = some la)) ∧ (∀ (j : Nat) (ys : List Int), j < k → p[j]? = some ys → ClsP R p j ys)) (fun _ _ i _ _ => n - (intOf i).toNat)
  case atStart => exact ⟨0, 0, 0, _, -1, by omega, rfl, rfl, own_start w _, (Below.refl _ _).alloc (Nat.le_refl _) _, rfl, .inl ⟨rfl, rfl⟩, fun j ys hj => absurd hj (by omega)⟩
  case round =>
    obtain ⟨k, N, d, A', la, hk, rfl, rfl, hown, hb, rfl, hla, hall⟩ := hrel
    have h1 := h.below hb
    by_cases hlt : k < n
    · obtain ⟨b, o, zs, A2, c2, rfl, hbb, hz1, hc1, hr⟩ := at_row h1 hlt
      have hzb := hne.out _ _ hz1
      by_cases h2 : zs.length < 2
      · have d1 : decide ((zs.length : Int) < 2) = true := by simp; omega
        have e := hide (prtB_no (R := R) (rows := rows) (p := p) (fun hp => absurd (hp k zs hz1).1 (by omega)))
        replace hall := hide hall
        replace hla := hide hla
        replace hr := hide hr
        replace hz1 := hide hz1
        go_wp2_with fail
        go_ret
        exact ⟨ret_bool e.out.symm, hb⟩
      · have d1 : decide ((zs.length : Int) < 2) = false := by simp; omega
        obtain ⟨b1, o1, x0, rfl, hb1, hx0, hc0⟩ := at_int hr (show 0 < zs.length by omega)
        rw [Nat.add_zero] at hc0
        by_cases h3 : x0 ≤ la
        · have e := hide (prtB_no (R := R) (rows := rows) (p := p) (fun hp => by
            obtain ⟨_, hp2, hp3⟩ := hp k zs hz1
            rcases hla with ⟨rfl, rfl⟩ | ⟨h0, ys, hy1, hy2⟩
            · have := (hp3 0 x0 hx0).1; omega
            · have := hp2 x0 ys la hx0 h0 hy1 hy2; omega))
          replace hall := hide hall
          replace hla := hide hla
          replace hr := hide hr
          replace hz1 := hide hz1
          go_wp2_with fail
          go_ret
          exact ⟨ret_bool e.out.symm, hb⟩
        · have hh2 : ∀ h ys g, zs[0]? = some h → 0 < k → p[k-1]? = some ys → ys[0]? = some g → g < h := by
            intro h ys g e1 e2 e3 e4
            rcases hla with ⟨rfl, rfl⟩ | ⟨h0, ys', hy1, hy2⟩
            · omega
            · rw [hx0] at e1; rw [e3] at hy1; cases e1; cases hy1; rw [e4] at hy2; cases hy2; omega
          replace hh2 := hide hh2
          replace hall := hide hall
          replace hz1 := hide hz1
          replace hr := hide hr
          have hx0' := hide hx0
          have hfl := hide (show (p.take k).flatten.length + zs.length ≤ 1048576 by rw [← lens_flat]; exact hzb)
          clear hla hx0
          go_wp2_with fail
          go_loopw [5, 8] (fun s j wr => ∃ (q N d : Nat) (A' : Option Addr), q ≤ zs.length ∧ j = .int .i64 (q : Int) ∧ s = .slice A' N d ∧ wr.ownsRow w.heap.size 3 1 (.slice A' N d) N (((p.take k).flatten ++ zs.take q).map (Value.int .i64)) ∧ Below w.heap.size w wr ∧ (∀ (i : Nat) (v : Int), i < q → zs[i]? = some v → ElP R (p.take k).flatten zs i v)) (fun _ j _ => zs.length - (intOf j).toNat)
          case atStart => exact ⟨0, N, d, _, by omega, rfl, rfl, by simpa using hown, hb, fun i v hi => absurd hi (by omega)⟩
          case round =>
            clear hown hb hr hc1 hc0 h1
            obtain ⟨q, N, d, A', hq, rfl, rfl, hown, hb, hinv⟩ := hrel
            have hN : N ≤ 1048576 := by have := own_len hown; rw [List.length_map, List.length_append, List.length_take] at this; have := hfl.out; omega
            obtain ⟨b', o', zs', A3, c3, e1, hbb', hz2, hc1, hr2⟩ := at_row (h.below hb) hlt
            cases e1
            rw [hz1.out] at hz2
            cases hz2
            have hz2 := hz1.out
            by_cases hql : q < zs.length
            · obtain ⟨b2, o2, x, rfl, hb2, hx1, hc2⟩ := at_int hr2 hql
              have hr3 := hr2.more (B' := wr.heap.size) hb.size
              have rS := Reads.of_own hown
              have hcall2 : ∀ z, Calls Try.prog 97 #[.slice A' N d, .int .i64 x] (wr.drewN z) fun e w'' => e = .returned (.bool (hasR ((p.take k).flatten ++ zs.take q) x)) ∧ ∃ m, w'' = wr.drewN m := fun z =>
                Calls.quiet_of ((l2has A' N d _ x (wr.drewN z) rS).mono fun e w' ⟨h1, h2⟩ => ⟨h1, 0, h2.symm⟩)
              have hcall1 : ∀ z, Calls Try.prog 83 #[.int .i64 x, .int .i64 0, .int .i64 R] (wr.drewN z) fun e w'' => e = .returned (.bool (decide (0 ≤ x) && decide (x ≤ R))) ∧ ∃ m, w'' = wr.drewN m := fun z =>
                Calls.quiet_of ((l1in x 0 R _ (wr.drewN z) rfl).mono fun e w' ⟨h1, h2⟩ => ⟨h1, 0, h2.symm⟩)
              clear rS hr3
              rcases hin : (decide (0 ≤ x) && decide (x ≤ R)) with _ | _
              · rw [hin] at hcall1
                have e := hide (prtB_no (R := R) (rows := rows) (p := p) (fun hp => by have := (hp k zs hz2).2.2 q x hx1; have h1 := this.1; have h2 := this.2.1; simp at hin; omega))
                replace hinv := hide hinv
                replace hz2 := hide hz2
                replace hr2 := hide hr2
                replace hx1 := hide hx1
                replace hcall1 := hide hcall1
                replace hcall2 := hide hcall2
                go_wp2_with fail
                go_quiet ((first | (go_at_call 83; exact hcall1.out _) | (go_at_call 97; exact hcall2.out _)))
                go_wp2_with fail
                go_ret
                exact ⟨ret_bool e.out.symm, below_drewN hb _⟩
              · rw [hin] at hcall1
                have hin' : 0 ≤ x ∧ x ≤ R := by simpa using hin
                clear hin
                by_cases hq0 : q = 0
                · subst hq0
                  rw [Nat.add_zero] at hc2
                  rcases hha : hasR ((p.take k).flatten ++ zs.take 0) x with _ | _
                  · rw [hha] at hcall2
                    have hno := hide (hasR_no hha)
                    clear hha
                    have e := hide (show ElP R (p.take k).flatten zs 0 x from ⟨hin'.1, hin'.2, fun y h0 => absurd h0 (by omega), fun hm => hno.out (by simpa using hm)⟩)
                    have hnext := hide (el_step hinv hx1 e.out)
                    have hcs := hide (map_take_succ hx1)
                    replace hinv := hide hinv
                    replace hz2 := hide hz2
                    replace hr2 := hide hr2
                    replace hx1 := hide hx1
                    replace hcall1 := hide hcall1
                    replace hcall2 := hide hcall2
                    clear e
                    go_wp2_with fail
                    go_quiet ((first | (go_at_call 83; exact hcall1.out _) | (go_at_call 97; exact hcall2.out _)))
                    go_wp2_with (at_builtin; refine wpList_push elemInt rfl (.tmp 91) (.tmp 99) (wr.drewN nq) _ rfl w.heap.size (.slice A' N d) N _ rfl rfl (show (wr.drewN nq).ownsRow _ _ _ _ _ _ from hown) rfl (by omega) hb.size ?_; intro A' c' w3 hown' hg hat)
                    go_roundw
                    case rel => exact ⟨0 + 1, N + 1, c', A', by omega, by go_num, rfl, by rw [List.map_append, hcs.out, ← List.append_assoc, ← List.map_append]; exact hown', below_push (below_drewN hb nq) hb.size (show (wr.drewN nq).ownsRow _ _ _ _ _ _ from hown) hg, hnext.out⟩
                    case measure => simp [intOf]; omega
                  · rw [hha] at hcall2
                    have hyes := hide (hasR_iff.1 hha)
                    clear hha
                    have e := hide (prtB_no (R := R) (rows := rows) (p := p) (fun hp => ((hp k zs hz2).2.2 0 x hx1).2.2.2 (by simpa using hyes.out)))
                    replace hinv := hide hinv
                    replace hz2 := hide hz2
                    replace hr2 := hide hr2
                    replace hx1 := hide hx1
                    replace hcall1 := hide hcall1
                    replace hcall2 := hide hcall2
                    go_wp2_with fail
                    go_quiet ((first | (go_at_call 83; exact hcall1.out _) | (go_at_call 97; exact hcall2.out _)))
                    go_wp2_with fail
                    go_ret
                    exact ⟨ret_bool e.out.symm, below_drewN hb _⟩
                · obtain ⟨r, hrq⟩ : ∃ r, q = r + 1 := ⟨q - 1, by omega⟩
                  have hw : IntKind.i64.wrap ((q : Int) - 1) = (r : Int) := by rw [show (q : Int) - 1 = r by omega]; exact IntWalk.i64_in _ (by omega)
                  have dq : decide ((0 : Int) < (q : Int)) = true := by simp; omega
                  have dq2 : decide (0 < q) = true := by simp; omega
                  have hrl : r < zs.length := by omega
                  obtain ⟨b3, o3, y, e3, hb3, hy1, hc3⟩ := at_int hr2 hrl
                  cases e3
                  have hy2 : zs[q-1]? = some y := by rw [hrq]; exact hy1
                  replace hrq := hide hrq
                  by_cases hxy : x ≤ y
                  · have dxy : decide (x ≤ y) = true := by simpa using hxy
                    have e := hide (prtB_no (R := R) (rows := rows) (p := p) (fun hp => by have := ((hp k zs hz2).2.2 q x hx1).2.2.1 y (by omega) hy2; omega))
                    replace hinv := hide hinv
                    replace hz2 := hide hz2
                    replace hr2 := hide hr2
                    replace hx1 := hide hx1
                    replace hcall1 := hide hcall1
                    replace hcall2 := hide hcall2
                    replace hy1 := hide hy1
                    replace hy2 := hide hy2
                    go_wp2_with fail
                    go_quiet ((first | (go_at_call 83; exact hcall1.out _) | (go_at_call 97; exact hcall2.out _)))
                    go_wp2_with fail
                    go_ret
                    exact ⟨ret_bool e.out.symm, below_drewN hb _⟩
                  · have dxy : decide (x ≤ y) = false := by simpa using hxy
                    have hinc := hide (inc_lt q x (fun j v hj hv => (hinv j v hj hv).2.2.1) hx1 (fun y' _ h' => by rw [hy2] at h'; cases h'; omega))
                    rcases hha : hasR ((p.take k).flatten ++ zs.take q) x with _ | _
                    · rw [hha] at hcall2
                      have hno := hide (hasR_no hha)
                      clear hha
                      have e := hide (show ElP R (p.take k).flatten zs q x from ⟨hin'.1, hin'.2, fun y' h0 h' => (by rw [hy2] at h'; cases h'; omega), fun hm => hno.out (List.mem_append_left _ hm)⟩)
                      have hnext := hide (el_step hinv hx1 e.out)
                      have hcs := hide (map_take_succ hx1)
                      replace hinv := hide hinv
                      replace hz2 := hide hz2
                      replace hr2 := hide hr2
                      replace hx1 := hide hx1
                      replace hcall1 := hide hcall1
                      replace hcall2 := hide hcall2
                      replace hy1 := hide hy1
                      replace hy2 := hide hy2
                      clear e
                      go_wp2_with fail
                      go_quiet ((first | (go_at_call 83; exact hcall1.out _) | (go_at_call 97; exact hcall2.out _)))
                      go_wp2_with (at_builtin; refine wpList_push elemInt rfl (.tmp 91) (.tmp 99) (wr.drewN nq) _ rfl w.heap.size (.slice A' N d) N _ rfl rfl (show (wr.drewN nq).ownsRow _ _ _ _ _ _ from hown) rfl (by omega) hb.size ?_; intro A' c' w3 hown' hg hat)
                      go_roundw
                      case rel => exact ⟨q + 1, N + 1, c', A', by omega, by go_num, rfl, by rw [List.map_append, hcs.out, ← List.append_assoc, ← List.map_append]; exact hown', below_push (below_drewN hb nq) hb.size (show (wr.drewN nq).ownsRow _ _ _ _ _ _ from hown) hg, hnext.out⟩
                      case measure => simp [intOf]; omega
                    · rw [hha] at hcall2
                      have hyes := hide (hasR_iff.1 hha)
                      clear hha
                      have e := hide (prtB_no (R := R) (rows := rows) (p := p) (fun hp => ((hp k zs hz2).2.2 q x hx1).2.2.2 ((List.mem_append.1 hyes.out).resolve_right fun hm => absurd (hinc.out x hm) (by omega))))
                      replace hinv := hide hinv
                      replace hz2 := hide hz2
                      replace hr2 := hide hr2
                      replace hx1 := hide hx1
                      replace hcall1 := hide hcall1
                      replace hcall2 := hide hcall2
                      replace hy1 := hide hy1
                      replace hy2 := hide hy2
                      go_wp2_with fail
                      go_quiet ((first | (go_at_call 83; exact hcall1.out _) | (go_at_call 97; exact hcall2.out _)))
                      go_wp2_with fail
                      go_ret
                      exact ⟨ret_bool e.out.symm, below_drewN hb _⟩
            · obtain rfl : q = zs.length := by omega
              have hcl : ClsP R p k zs := ⟨by omega, hh2.out, fun i v hv => hinv i v (List.getElem?_eq_some_iff.1 hv).1 hv⟩
              have hstep := hide (partP_step hall.out hz2 hcl)
              have hfs := hide (flat_succ hz2)
              rw [List.take_of_length_le (Nat.le_refl _), ← hfs.out] at hown
              have hx00 := hide (show ∃ ys, p[k + 1 - 1]? = some ys ∧ ys[0]? = some x0 from ⟨zs, hz2, hx0'.out⟩)
              replace hinv := hide hinv
              replace hz2 := hide hz2
              replace hr2 := hide hr2
              clear hcl
              go_wp2_with fail
              go_roundw
              case rel => exact ⟨k + 1, N, d, A', x0, by omega, by go_num, rfl, hown, hb, rfl, .inr ⟨by omega, hx00.out⟩, hstep.out⟩
              case measure => simp [intOf]; omega
    · obtain rfl : k = n := by omega
      have e := hide (prtB_yes (R := R) (rows := rows) (p := p) (fun j ys hj => hall j ys (by have := (List.getElem?_eq_some_iff.1 hj).1; have := lz.out; omega) hj))
      replace hall := hide hall
      replace hla := hide hla
      rcases hin : (decide (0 ≤ rows) && decide (rows ≤ 40)) with _ | _
      all_goals
        replace hin := hide hin
        go_wp2_with (go_at_call 83; refine (l1in _ _ _ _ _ hin.out).mono ?_; rintro e w2 ⟨rfl, rfl⟩)
        go_ret
        exact ⟨ret_bool (by rw [e.out, hin.out]), hb⟩
theorem cls_lt {x : Int} : ∀ (p : List (List Int)) (k : Nat) (i : Int), x ∈ (p.take k).flatten → clsFrom i p x < i + k
  | [], k, i, h => by simp at h
  | zs :: r, 0, i, h => by simp at h
  | zs :: r, k+1, i, h => by
    unfold clsFrom
    split
    · omega
    · rename_i hh
      have := cls_lt r k (i + 1) (by
        simp at h ⊢
        rcases h with h | h
        · exact absurd (hasR_iff.2 h) hh
        · exact h)
      omega
theorem cls_in {x : Int} {p : List (List Int)} {k : Nat} {zs : List Int} (hz : p[k]? = some zs) (hx : x ∈ zs) : (clsV p x = k) ↔ x ∉ (p.take k).flatten := by
  constructor
  · intro h hm
    have := cls_lt p k 0 hm
    unfold clsV at h
    omega
  · intro h
    refine cls_at ?_ hz (hasR_iff.2 hx)
    rw [List.all_eq_true]
    intro ys hy
    cases hc : hasR ys x with
    | false => rfl
    | true => exact absurd (List.mem_flatten.2 ⟨ys, hy, hasR_iff.1 hc⟩) h
theorem prtB_rows {R rows : Int} {p : List (List Int)} (h : (decide (0 ≤ rows) && decide (rows ≤ 40)) = false) : prtB R rows p = false := by simp only [prtB, h, Bool.and_false]
theorem prtB_wrap (rows : Int) (p : List (List Int)) : prtB (IntKind.i64.wrap (rows - 1)) rows p = prtB (rows - 1) rows p := by
  cases h : (decide (0 ≤ rows) && decide (rows ≤ 40)) with
  | false => rw [prtB_rows h, prtB_rows h]
  | true =>
    have hr : 0 ≤ rows ∧ rows ≤ 40 := by simpa using h
    rw [IntWalk.i64_in _ (by omega)]

set_option maxHeartbeats 4000000 in
set_option maxRecDepth 100000 in
theorem implIsP (A : Option Addr) (n c : Nat) (p : List (List Int)) (rows : Int) (w : World) (h : RowsAt w w.heap.size A n p) :
    Calls Try.prog 98 #[.slice A n c, .int .i64 rows] w (RetVal w (.bool (prtB (rows - 1) rows p))) := by
  have hn := rows_bound h
  have lz := hide h.1
  by_cases hr0 : rows < 0
  · have e := hide (prtB_rows (R := rows - 1) (rows := rows) (p := p) (by simp; omega))
    have d1 : decide (rows < 0) = true := by simpa using hr0
    clear h
    go_enter Try.func98, Try.ntmps98
    go_wp2_with fail
    go_ret
    exact ⟨ret_bool e.out.symm, Below.refl _ _⟩
  have d1 : decide (rows < 0) = false := by simpa using hr0
  by_cases hr1 : 40 < rows
  · have e := hide (prtB_rows (R := rows - 1) (rows := rows) (p := p) (by simp; omega))
    have d2 : decide (40 < rows) = true := by simpa using hr1
    clear h
    go_enter Try.func98, Try.ntmps98
    go_wp2_with fail
    go_ret
    exact ⟨ret_bool e.out.symm, Below.refl _ _⟩
  have d2 : decide (40 < rows) = false := by simpa using hr1
  have hyes := hide (show (decide (0 ≤ rows) && decide (rows ≤ 40)) = true by simp; omega)
  go_enter Try.func98, Try.ntmps98
  go_wp2_with fail
  go_loopw [5, 6, 7, 8, 17, 42, 43, 44] (fun _ _ _ _ i _ _ _ wr => ∃ (k z : Nat), k ≤ n ∧ i = .int .i64 (k : Int) ∧ wr = w.drewN z ∧ (∀ (j : Nat) (ys : List Int), j < k → p[j]? = some ys → ClsP (rows - 1) p j ys)) (fun _ _ _ _ i _ _ _ _ => n - (intOf i).toNat)
  case atStart => exact ⟨0, 0, by omega, rfl, rfl, fun j ys hj => absurd hj (by omega)⟩
  case round =>
    obtain ⟨k, z, hk, rfl, hwr, hall⟩ := hrel
    have hb : Below w.heap.size w wr := by rw [hwr]; exact below_drewN (Below.refl _ _) z
    have h1 := h.below hb
    replace hwr := hide hwr
    by_cases hlt : k < n
    · obtain ⟨b, o, zs, A2, c2, rfl, hbb, hz1, hc1, hr⟩ := at_row h1 hlt
      by_cases h2 : zs.length < 2
      · have d3 : decide ((zs.length : Int) < 2) = true := by simp; omega
        have e := hide (prtB_no (R := rows - 1) (rows := rows) (p := p) (fun hp => absurd (hp k zs hz1).1 (by omega)))
        replace hall := hide hall
        replace hr := hide hr
        replace hz1 := hide hz1
        replace h := hide h
        clear h1
        go_wp2_with fail
        go_quiet (fail)
        go_wp2_with fail
        go_ret
        exact ⟨ret_bool e.out.symm, below_drewN hb _⟩
      · have d3 : decide ((zs.length : Int) < 2) = false := by simp; omega
        obtain ⟨b1, o1, x0, rfl, hb1, hx0, hc0⟩ := at_int hr (show 0 < zs.length by omega)
        rw [Nat.add_zero] at hc0
        have hzb := hr.bound
        have h3 := h1.more (B' := wr.heap.size) hb.size
        replace h3 := hide h3
        by_cases hk0 : k = 0
        · have dk : decide ((0 : Int) < (k : Int)) = false := by simp; omega
          have dk2 : decide (0 < k) = false := by simp; omega
          have hh2 : ∀ h ys g, zs[0]? = some h → 0 < k → p[k-1]? = some ys → ys[0]? = some g → g < h := fun _ _ _ _ h0 => absurd h0 (by omega)
          replace hk0 := hide hk0
          replace hh2 := hide hh2
          replace hall := hide hall
          replace hz1 := hide hz1
          replace hr := hide hr
          replace hx0 := hide hx0
          replace h := hide h
          clear h1
          go_wp2_with fail
          go_quiet (fail)
          go_wp2_with fail
          replace h3 := h3.out
          go_loop [7, 8, 44] (fun _ _ j => ∃ q : Nat, q ≤ zs.length ∧ j = .int .i64 (q : Int) ∧ (∀ (i : Nat) (v : Int), i < q → zs[i]? = some v → ElP (rows - 1) (p.take k).flatten zs i v)) (fun _ _ j => zs.length - (intOf j).toNat)
          case atStart => exact ⟨0, by omega, rfl, fun i v hi => absurd hi (by omega)⟩
          case round =>
            obtain ⟨q, hq, rfl, hinv⟩ := hrel
            by_cases hql : q < zs.length
            · obtain ⟨b2, o2, x, e2, hb2, hx1, hc2⟩ := at_int hr.out hql
              cases e2
              by_cases hx0n : x < 0
              · have dx : decide (x < 0) = true := by simpa using hx0n
                have e := hide (prtB_no (R := rows - 1) (rows := rows) (p := p) (fun hp => by have := ((hp k zs hz1.out).2.2 q x hx1).1; omega))
                replace hinv := hide hinv
                replace hx1 := hide hx1
                go_wp2_with fail
                go_ret
                exact ⟨ret_bool e.out.symm, below_drewN hb _⟩
              have dx : decide (x < 0) = false := by simpa using hx0n
              by_cases hxr : rows ≤ x
              · have dxr : decide (rows ≤ x) = true := by simpa using hxr
                have e := hide (prtB_no (R := rows - 1) (rows := rows) (p := p) (fun hp => by have := ((hp k zs hz1.out).2.2 q x hx1).2.1; omega))
                replace hinv := hide hinv
                replace hx1 := hide hx1
                go_wp2_with fail
                go_ret
                exact ⟨ret_bool e.out.symm, below_drewN hb _⟩
              have dxr : decide (rows ≤ x) = false := by simpa using hxr
              by_cases hq0 : q = 0
              · subst hq0
                rw [Nat.add_zero] at hc2
                obtain rfl : x = x0 := Option.some.inj (hx1.symm.trans hx0.out)
                clear hc2
                by_cases hcl : clsV p x = (k : Int)
                · have hns := hide ((cls_in hz1.out (List.mem_of_getElem? hx1)).1 hcl)
                  replace hcl := hide hcl
                  have e := hide (show ElP (rows - 1) (p.take k).flatten zs 0 x from ⟨by omega, by omega, fun y h0 => absurd h0 (by omega), hns.out⟩)
                  have hnext := hide (el_step hinv hx1 e.out)
                  replace hinv := hide hinv
                  replace hx1 := hide hx1
                  clear e
                  go_wp2_with (go_at_call 101; refine (ownerof _ _ _ _ _ _ (show RowsAt (wr.drewN nq) (wr.drewN nq).heap.size _ _ _ from h3)).mono ?_; rintro e w' ⟨rfl, rfl⟩; rw [hcl.out])
                  go_round
                  case rel => exact ⟨0 + 1, by omega, by go_num, hnext.out⟩
                  case measure => simp [intOf]; omega
                · have hns := hide (fun hm => hcl ((cls_in hz1.out (List.mem_of_getElem? hx1)).2 hm))
                  have dcl : (clsV p x == (k : Int)) = false := by rw [beq_eq_false_iff_ne]; exact hcl
                  clear hcl
                  have e := hide (prtB_no (R := rows - 1) (rows := rows) (p := p) (fun hp => hns.out ((hp k zs hz1.out).2.2 0 x hx1).2.2.2))
                  replace hinv := hide hinv
                  replace hx1 := hide hx1
                  go_wp2_with (go_at_call 101; refine (ownerof _ _ _ _ _ _ (show RowsAt (wr.drewN nq) (wr.drewN nq).heap.size _ _ _ from h3)).mono ?_; rintro e w' ⟨rfl, rfl⟩)
                  go_ret
                  exact ⟨ret_bool e.out.symm, below_drewN hb _⟩
              · obtain ⟨r, hrq⟩ : ∃ r, q = r + 1 := ⟨q - 1, by omega⟩
                have hw : IntKind.i64.wrap ((q : Int) - 1) = (r : Int) := by rw [show (q : Int) - 1 = r by omega]; exact IntWalk.i64_in _ (by omega)
                have dq : decide ((0 : Int) < (q : Int)) = true := by simp; omega
                have dq2 : decide (0 < q) = true := by simp; omega
                have hrl : r < zs.length := by omega
                obtain ⟨b3, o3, y, e3, hb3, hy1, hc3⟩ := at_int hr.out hrl
                cases e3
                have hy2 : zs[q-1]? = some y := by rw [hrq]; exact hy1
                replace hrq := hide hrq
                by_cases hxy : x ≤ y
                · have dxy : decide (x ≤ y) = true := by simpa using hxy
                  have e := hide (prtB_no (R := rows - 1) (rows := rows) (p := p) (fun hp => by have := ((hp k zs hz1.out).2.2 q x hx1).2.2.1 y (by omega) hy2; omega))
                  replace hinv := hide hinv
                  replace hx1 := hide hx1
                  replace hy1 := hide hy1
                  replace hy2 := hide hy2
                  go_wp2_with fail
                  go_ret
                  exact ⟨ret_bool e.out.symm, below_drewN hb _⟩
                · have dxy : decide (x ≤ y) = false := by simpa using hxy
                  by_cases hcl : clsV p x = (k : Int)
                  · have hns := hide ((cls_in hz1.out (List.mem_of_getElem? hx1)).1 hcl)
                    replace hcl := hide hcl
                    have e := hide (show ElP (rows - 1) (p.take k).flatten zs q x from ⟨by omega, by omega, fun y' h0 h' => (by rw [hy2] at h'; cases h'; omega), hns.out⟩)
                    have hnext := hide (el_step hinv hx1 e.out)
                    replace hinv := hide hinv
                    replace hx1 := hide hx1
                    replace hy1 := hide hy1
                    replace hy2 := hide hy2
                    clear e
                    go_wp2_with (go_at_call 101; refine (ownerof _ _ _ _ _ _ (show RowsAt (wr.drewN nq) (wr.drewN nq).heap.size _ _ _ from h3)).mono ?_; rintro e w' ⟨rfl, rfl⟩; rw [hcl.out])
                    go_round
                    case rel => exact ⟨q + 1, by omega, by go_num, hnext.out⟩
                    case measure => simp [intOf]; omega
                  · have hns := hide (fun hm => hcl ((cls_in hz1.out (List.mem_of_getElem? hx1)).2 hm))
                    have dcl : (clsV p x == (k : Int)) = false := by rw [beq_eq_false_iff_ne]; exact hcl
                    clear hcl
                    have e := hide (prtB_no (R := rows - 1) (rows := rows) (p := p) (fun hp => hns.out ((hp k zs hz1.out).2.2 q x hx1).2.2.2))
                    replace hinv := hide hinv
                    replace hx1 := hide hx1
                    replace hy1 := hide hy1
                    replace hy2 := hide hy2
                    go_wp2_with (go_at_call 101; refine (ownerof _ _ _ _ _ _ (show RowsAt (wr.drewN nq) (wr.drewN nq).heap.size _ _ _ from h3)).mono ?_; rintro e w' ⟨rfl, rfl⟩)
                    go_ret
                    exact ⟨ret_bool e.out.symm, below_drewN hb _⟩
            · obtain rfl : q = zs.length := by omega
              have hcl : ClsP (rows - 1) p k zs := ⟨by omega, hh2.out, fun i v hv => hinv i v (List.getElem?_eq_some_iff.1 hv).1 hv⟩
              have hstep := hide (partP_step hall.out hz1.out hcl)
              have hwn := hide (show wr.drewN nq = w.drewN (z + nq) by rw [hwr.out, World.drewN_drewN])
              replace hinv := hide hinv
              clear hcl
              go_wp2_with fail
              go_roundw
              case rel => exact ⟨k + 1, z + nq, by omega, by go_num, hwn.out, hstep.out⟩
              case measure => simp [intOf]; omega
        · obtain ⟨r, hrk⟩ : ∃ r, k = r + 1 := ⟨k - 1, by omega⟩
          have hw : IntKind.i64.wrap ((k : Int) - 1) = (r : Int) := by rw [show (k : Int) - 1 = r by omega]; exact IntWalk.i64_in _ (by omega)
          have dk : decide ((0 : Int) < (k : Int)) = true := by simp; omega
          have dk2 : decide (0 < k) = true := by simp; omega
          obtain ⟨b5, o5, ys, A5, c5, e5, hb5, hz5, hc5, hr5⟩ := at_row h1 (show r < n by omega)
          cases e5
          have hl5 := (hall r ys (by omega) hz5).1
          obtain ⟨b6, o6, y0, rfl, hb6, hy0, hc6⟩ := at_int hr5 (show 0 < ys.length by omega)
          rw [Nat.add_zero] at hc6
          have hz6 : p[k-1]? = some ys := by rw [hrk]; exact hz5
          have hrn : r < n := by omega
          have hl6 : 0 < ys.length := by omega
          have hl7 : 0 < zs.length := by omega
          replace hrk := hide hrk
          by_cases hxy : x0 ≤ y0
          · have dxy : decide (x0 ≤ y0) = true := by simpa using hxy
            have e := hide (prtB_no (R := rows - 1) (rows := rows) (p := p) (fun hp => absurd ((hp k zs hz1).2.1 x0 ys y0 hx0 (by omega) hz6 hy0) (by omega)))
            replace hall := hide hall
            replace hz1 := hide hz1
            replace hr := hide hr
            replace hx0 := hide hx0
            replace h := hide h
            replace hz5 := hide hz5
            replace hz6 := hide hz6
            replace hr5 := hide hr5
            replace hy0 := hide hy0
            clear h1 h3
            go_wp2_with fail
            go_quiet (fail)
            go_wp2_with fail
            go_ret
            exact ⟨ret_bool e.out.symm, below_drewN hb _⟩
          · have dxy : decide (x0 ≤ y0) = false := by simpa using hxy
            have hh2 : ∀ h ys g, zs[0]? = some h → 0 < k → p[k-1]? = some ys → ys[0]? = some g → g < h := by
              intro h ys' g e1 e2 e3 e4
              rw [hx0] at e1; rw [hz6] at e3; cases e1; cases e3; rw [hy0] at e4; cases e4; omega
            replace hh2 := hide hh2
            replace hall := hide hall
            replace hz1 := hide hz1
            replace hr := hide hr
            replace hx0 := hide hx0
            replace h := hide h
            clear h1 hz5 hz6 hy0 hr5
            go_wp2_with fail
            go_quiet (fail)
            clear hw dk dk2 dxy hxy hc5 hc6
            go_wp2_with fail
            replace h3 := h3.out
            go_loop [7, 8, 44] (fun _ _ j => ∃ q : Nat, q ≤ zs.length ∧ j = .int .i64 (q : Int) ∧ (∀ (i : Nat) (v : Int), i < q → zs[i]? = some v → ElP (rows - 1) (p.take k).flatten zs i v)) (fun _ _ j => zs.length - (intOf j).toNat)
            case atStart => exact ⟨0, by omega, rfl, fun i v hi => absurd hi (by omega)⟩
            case round =>
              obtain ⟨q, hq, rfl, hinv⟩ := hrel
              by_cases hql : q < zs.length
              · obtain ⟨b2, o2, x, e2, hb2, hx1, hc2⟩ := at_int hr.out hql
                cases e2
                by_cases hx0n : x < 0
                · have dx : decide (x < 0) = true := by simpa using hx0n
                  have e := hide (prtB_no (R := rows - 1) (rows := rows) (p := p) (fun hp => by have := ((hp k zs hz1.out).2.2 q x hx1).1; omega))
                  replace hinv := hide hinv
                  replace hx1 := hide hx1
                  go_wp2_with fail
                  go_ret
                  exact ⟨ret_bool e.out.symm, below_drewN hb _⟩
                have dx : decide (x < 0) = false := by simpa using hx0n
                by_cases hxr : rows ≤ x
                · have dxr : decide (rows ≤ x) = true := by simpa using hxr
                  have e := hide (prtB_no (R := rows - 1) (rows := rows) (p := p) (fun hp => by have := ((hp k zs hz1.out).2.2 q x hx1).2.1; omega))
                  replace hinv := hide hinv
                  replace hx1 := hide hx1
                  go_wp2_with fail
                  go_ret
                  exact ⟨ret_bool e.out.symm, below_drewN hb _⟩
                have dxr : decide (rows ≤ x) = false := by simpa using hxr
                by_cases hq0 : q = 0
                · subst hq0
                  rw [Nat.add_zero] at hc2
                  obtain rfl : x = x0 := Option.some.inj (hx1.symm.trans hx0.out)
                  clear hc2
                  by_cases hcl : clsV p x = (k : Int)
                  · have hns := hide ((cls_in hz1.out (List.mem_of_getElem? hx1)).1 hcl)
                    replace hcl := hide hcl
                    have e := hide (show ElP (rows - 1) (p.take k).flatten zs 0 x from ⟨by omega, by omega, fun y h0 => absurd h0 (by omega), hns.out⟩)
                    have hnext := hide (el_step hinv hx1 e.out)
                    replace hinv := hide hinv
                    replace hx1 := hide hx1
                    clear e
                    go_wp2_with (go_at_call 101; refine (ownerof _ _ _ _ _ _ (show RowsAt (wr.drewN nq) (wr.drewN nq).heap.size _ _ _ from h3)).mono ?_; rintro e w' ⟨rfl, rfl⟩; rw [hcl.out])
                    go_round
                    case rel => exact ⟨0 + 1, by omega, by go_num, hnext.out⟩
                    case measure => simp [intOf]; omega
                  · have hns := hide (fun hm => hcl ((cls_in hz1.out (List.mem_of_getElem? hx1)).2 hm))
                    have dcl : (clsV p x == (k : Int)) = false := by rw [beq_eq_false_iff_ne]; exact hcl
                    clear hcl
                    have e := hide (prtB_no (R := rows - 1) (rows := rows) (p := p) (fun hp => hns.out ((hp k zs hz1.out).2.2 0 x hx1).2.2.2))
                    replace hinv := hide hinv
                    replace hx1 := hide hx1
                    go_wp2_with (go_at_call 101; refine (ownerof _ _ _ _ _ _ (show RowsAt (wr.drewN nq) (wr.drewN nq).heap.size _ _ _ from h3)).mono ?_; rintro e w' ⟨rfl, rfl⟩)
                    go_ret
                    exact ⟨ret_bool e.out.symm, below_drewN hb _⟩
                · obtain ⟨r, hrq⟩ : ∃ r, q = r + 1 := ⟨q - 1, by omega⟩
                  have hw : IntKind.i64.wrap ((q : Int) - 1) = (r : Int) := by rw [show (q : Int) - 1 = r by omega]; exact IntWalk.i64_in _ (by omega)
                  have dq : decide ((0 : Int) < (q : Int)) = true := by simp; omega
                  have dq2 : decide (0 < q) = true := by simp; omega
                  have hrl : r < zs.length := by omega
                  obtain ⟨b3, o3, y, e3, hb3, hy1, hc3⟩ := at_int hr.out hrl
                  cases e3
                  have hy2 : zs[q-1]? = some y := by rw [hrq]; exact hy1
                  replace hrq := hide hrq
                  by_cases hxy : x ≤ y
                  · have dxy : decide (x ≤ y) = true := by simpa using hxy
                    have e := hide (prtB_no (R := rows - 1) (rows := rows) (p := p) (fun hp => by have := ((hp k zs hz1.out).2.2 q x hx1).2.2.1 y (by omega) hy2; omega))
                    replace hinv := hide hinv
                    replace hx1 := hide hx1
                    replace hy1 := hide hy1
                    replace hy2 := hide hy2
                    go_wp2_with fail
                    go_ret
                    exact ⟨ret_bool e.out.symm, below_drewN hb _⟩
                  · have dxy : decide (x ≤ y) = false := by simpa using hxy
                    by_cases hcl : clsV p x = (k : Int)
                    · have hns := hide ((cls_in hz1.out (List.mem_of_getElem? hx1)).1 hcl)
                      replace hcl := hide hcl
                      have e := hide (show ElP (rows - 1) (p.take k).flatten zs q x from ⟨by omega, by omega, fun y' h0 h' => (by rw [hy2] at h'; cases h'; omega), hns.out⟩)
                      have hnext := hide (el_step hinv hx1 e.out)
                      replace hinv := hide hinv
                      replace hx1 := hide hx1
                      replace hy1 := hide hy1
                      replace hy2 := hide hy2
                      clear e
                      go_wp2_with (go_at_call 101; refine (ownerof _ _ _ _ _ _ (show RowsAt (wr.drewN nq) (wr.drewN nq).heap.size _ _ _ from h3)).mono ?_; rintro e w' ⟨rfl, rfl⟩; rw [hcl.out])
                      go_round
                      case rel => exact ⟨q + 1, by omega, by go_num, hnext.out⟩
                      case measure => simp [intOf]; omega
                    · have hns := hide (fun hm => hcl ((cls_in hz1.out (List.mem_of_getElem? hx1)).2 hm))
                      have dcl : (clsV p x == (k : Int)) = false := by rw [beq_eq_false_iff_ne]; exact hcl
                      clear hcl
                      have e := hide (prtB_no (R := rows - 1) (rows := rows) (p := p) (fun hp => hns.out ((hp k zs hz1.out).2.2 q x hx1).2.2.2))
                      replace hinv := hide hinv
                      replace hx1 := hide hx1
                      replace hy1 := hide hy1
                      replace hy2 := hide hy2
                      go_wp2_with (go_at_call 101; refine (ownerof _ _ _ _ _ _ (show RowsAt (wr.drewN nq) (wr.drewN nq).heap.size _ _ _ from h3)).mono ?_; rintro e w' ⟨rfl, rfl⟩)
                      go_ret
                      exact ⟨ret_bool e.out.symm, below_drewN hb _⟩
              · obtain rfl : q = zs.length := by omega
                have hcl : ClsP (rows - 1) p k zs := ⟨by omega, hh2.out, fun i v hv => hinv i v (List.getElem?_eq_some_iff.1 hv).1 hv⟩
                have hstep := hide (partP_step hall.out hz1.out hcl)
                have hwn := hide (show wr.drewN nq = w.drewN (z + nq) by rw [hwr.out, World.drewN_drewN])
                replace hinv := hide hinv
                clear hcl
                go_wp2_with fail
                go_roundw
                case rel => exact ⟨k + 1, z + nq, by omega, by go_num, hwn.out, hstep.out⟩
                case measure => simp [intOf]; omega
    · obtain rfl : k = n := by omega
      have e := hide (prtB_yes (R := rows - 1) (rows := rows) (p := p) (fun j ys hj => hall j ys (by have := (List.getElem?_eq_some_iff.1 hj).1; have := lz.out; omega) hj))
      replace hall := hide hall
      replace h := hide h
      clear h1
      go_wp2_with fail
      go_ret
      exact ⟨ret_bool (by rw [e.out, hyes.out]), hb⟩
end Go.Proofs.Ytkcckfpihpfbnaa
