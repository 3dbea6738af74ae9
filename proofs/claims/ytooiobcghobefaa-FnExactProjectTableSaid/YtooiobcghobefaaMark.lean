/-
  Walks of the laws' marks over lists of lists and tables: what they write, and what they leave alone.
  Conditions: as each theorem says.
-/
import Derived.Test.YtooiobcghobefaaTab
namespace Go.Proofs.Ytooiobcghobefaa
open Go.RowKit
set_option linter.unusedVariables false

/-- What may have been written lies in the blocks B .. H-1. -/
inductive Marked (B H : Nat) : World → World → Prop
  | refl (w : World) : Marked B H w w
  | step {a b c : World} {row : Option Nat} : Marked B H a b → b.grownBy c row → (∀ k, row = some k → B ≤ k ∧ k < H) → Marked B H a c
theorem Marked.own {B H : Nat} {w w' : World} (h : Marked B H w w') {b e s n : Nat} {v : Value} {xs : List Value} (ho : w.ownsRow b e s v n xs) (hb : H ≤ b) : w'.ownsRow b e s v n xs := by
  induction h with
  | refl => exact ho
  | step _ hg hr ih =>
    refine ih.kept hg ?_
    cases hq : v.ownBlock with
    | none => exact .inl rfl
    | some q =>
      right
      intro he
      have h1 := hr q he.symm
      have h2 := (ih.lt q hq).1
      omega
theorem Marked.size {B H : Nat} {w w' : World} (h : Marked B H w w') : w.heap.size ≤ w'.heap.size := by
  induction h with
  | refl => exact Nat.le_refl _
  | step _ hg _ ih => exact Nat.le_trans ih hg.size
theorem Marked.low {B H : Nat} {w w' : World} (h : Marked B H w w') (hB : B ≤ w.heap.size) : Below B w w' := by
  induction h with
  | refl => exact Below.refl _ _
  | step h0 hg hr ih => exact ih.grown hg (Nat.le_trans hB h0.size) (fun k hk => (hr k hk).1)
theorem Marked.later {B H : Nat} {w w' : World} (h : Marked B H w w') {p : Addr} {v : Value} (hc : w.cell? p = some v) (hp : H ≤ p.block) (hp' : p.block < w.heap.size) : w'.cell? p = some v := by
  induction h with
  | refl => exact hc
  | step h0 hg hr ih =>
    rw [World.cell?_of_block (hg.block p.block (Nat.lt_of_lt_of_le hp' h0.size) ?_)]
    · exact ih
    · intro he
      have := (hr _ he.symm).2
      omega
theorem Marked.trans {B H : Nat} {a b c : World} (h : Marked B H a b) (k : Marked B H b c) : Marked B H a c := by
  induction k with
  | refl => exact h
  | step _ hg hr ih => exact ih.step hg hr
theorem Marked.wide {B H B' H' : Nat} {w w' : World} (h : Marked B H w w') (hB : B' ≤ B) (hH : H ≤ H') : Marked B' H' w w' := by
  induction h with
  | refl => exact .refl _
  | step _ hg hr ih => exact ih.step hg fun k hk => ⟨Nat.le_trans hB (hr k hk).1, Nat.lt_of_lt_of_le (hr k hk).2 hH⟩

/-- One of the lists, to be written. -/
theorem OwnRows.open_ {w : World} {B n c k : Nat} {A : Option Addr} {zss : List (List Int)} {zs : List Int} (h : OwnRows w B A n c zss) (hk : zss[k]? = some zs) :
    ∃ b o A' c', A = some ⟨b, o, none⟩ ∧ w.cell? ⟨b, o + k, none⟩ = some (.slice A' zs.length c') ∧ w.ownsRow B 3 1 (.slice A' zs.length c') zs.length (zs.map (Value.int .i64)) ∧
      ∀ (w' : World) (zs' : List Int), zs'.length = zs.length → w.grownBy w' (Value.slice A' zs.length c').ownBlock → w'.ownsRow B 3 1 (.slice A' zs.length c') zs.length (zs'.map (Value.int .i64)) → OwnRows w' B A n c (zss.set k zs') ∧ ∀ j, w'.cell? ⟨b, j, none⟩ = w.cell? ⟨b, j, none⟩ := by
  obtain ⟨h1, vs, h2, h3, h4⟩ := h
  have hkl := (List.getElem?_eq_some_iff.1 hk).1
  obtain ⟨A', c', h5, h6⟩ := h3 k zs hk
  obtain ⟨b, o, u, e1, _, e2, e3⟩ := (Reads.of_own h2).at_ (show k < n by omega)
  rw [h5] at e2
  obtain rfl := Option.some.inj e2
  have hnb := own_types h2 h6 (by decide)
  refine ⟨b, o, A', c', e1, e3, h6, fun w' zs' hl hg hw' => ⟨⟨by simp [h1], vs, h2.kept hg hnb, fun i ys hi => ?_, h4⟩, fun j => World.cell?_of_block (hg.block b ?_ ?_)⟩⟩
  rotate_left
  · subst e1
    exact (h2.lt b (by simp [Value.ownBlock])).2
  · subst e1
    intro he
    rcases hnb with h | h
    · simp [Value.ownBlock] at h
    · exact h (by rw [← he]; simp [Value.ownBlock])
  by_cases hik : i = k
  · subst hik
    rw [List.getElem?_set_self hkl] at hi
    obtain rfl := Option.some.inj hi
    exact ⟨A', c', by rw [hl]; exact h5, by rw [hl]; exact hw'⟩
  · rw [List.getElem?_set_ne (Ne.symm hik)] at hi
    obtain ⟨A2, c2, h7, h8⟩ := h3 i ys hi
    exact ⟨A2, c2, h7, h8.kept hg (h4 i k _ _ hik h7 h5)⟩

def marks (m n : Nat) : List Int := (List.range n).map fun i => ((m + i : Nat) : Int)
theorem marks_len (m n : Nat) : (marks m n).length = n := by simp [marks]
theorem marks_map (m n : Nat) : (marks m n).map (Value.int .i64) = (List.range n).map fun i => Value.int .i64 ((m + i : Nat) : Int) := by simp [marks, Function.comp_def]
/-- The lists' numbers, counted on from m. -/
def markL : Nat → List (List Int) → List (List Int)
  | _, [] => []
  | m, zs :: r => marks m zs.length :: markL (m + zs.length) r
theorem markL_len (m : Nat) (zss : List (List Int)) : (markL m zss).length = zss.length := by
  induction zss generalizing m with
  | nil => rfl
  | cons z r ih => simp [markL, ih]
theorem lens_cons (z : List Int) (r : List (List Int)) : lens (z :: r) = z.length + lens r := by simp [lens]
theorem markL_at {zss : List (List Int)} {k m : Nat} {zs : List Int} (h : zss[k]? = some zs) : (markL m zss)[k]? = some (marks (m + lens (zss.take k)) zs.length) := by
  induction zss generalizing k m with
  | nil => simp at h
  | cons z r ih =>
    cases k with
    | zero => simp at h; subst h; simp [markL, lens]
    | succ k =>
      simp at h
      have := ih (m := m + z.length) h
      simp [markL, this, lens_cons, Nat.add_assoc]
theorem markL_set {zss : List (List Int)} {k m : Nat} {zs : List Int} (h : zss[k]? = some zs) :
    (markL m (zss.take k) ++ zss.drop k).set k (marks (m + lens (zss.take k)) zs.length) = markL m (zss.take (k + 1)) ++ zss.drop (k + 1) := by
  induction zss generalizing k m with
  | nil => simp at h
  | cons z r ih =>
    cases k with
    | zero => simp at h; subst h; simp [markL, lens]
    | succ k =>
      simp at h
      have := ih (m := m + z.length) h
      simp [markL, lens_cons] at this ⊢
      rw [← this, Nat.add_assoc]
theorem mark_mid {zss : List (List Int)} {k m : Nat} {zs : List Int} (h : zss[k]? = some zs) : (markL m (zss.take k) ++ zss.drop k)[k]? = some zs := by
  have hk := (List.getElem?_eq_some_iff.1 h).1
  rw [List.getElem?_append_right (by rw [markL_len, List.length_take]; omega), markL_len, List.length_take, Nat.min_eq_left (by omega), Nat.sub_self]
  simp [h]

def Under (H : Nat) (w : World) (A : Option Addr) (n : Nat) : Prop :=
  ∀ b o, A = some ⟨b, o, none⟩ → ∀ j A' l c', j < n → w.cell? ⟨b, o + j, none⟩ = some (.slice A' l c') → ∀ q, (Value.slice A' l c').ownBlock = some q → q < H
theorem OwnRows.under {w : World} {B n c : Nat} {A : Option Addr} {zss : List (List Int)} (h : OwnRows w B A n c zss) : Under w.heap.size w A n := by
  rintro b o rfl j A' l c' hj hc q hq
  obtain ⟨h1, vs, h2, h3, h4⟩ := h
  obtain ⟨zs, hzk⟩ : ∃ zs, zss[j]? = some zs := ⟨_, List.getElem?_eq_getElem (by omega)⟩
  obtain ⟨b', o', u, e1, _, e2, e3⟩ := (Reads.of_own h2).at_ hj
  obtain ⟨A2, c2, h5, h6⟩ := h3 j zs hzk
  cases e1
  rw [h5] at e2
  obtain rfl := Option.some.inj e2
  rw [hc] at e3
  rw [Option.some.inj e3] at hq
  exact (h6.lt q hq).2

theorem Under.below {H n : Nat} {w w' : World} {A : Option Addr} (h : Under H w A n) (hb : Below w.heap.size w w') (hA : ∀ b o, A = some ⟨b, o, none⟩ → b < w.heap.size) : Under H w' A n := by
  rintro b o e j A' l c' hj hc
  rw [hb.cell (hA b o e)] at hc
  exact h b o e j A' l c' hj hc
theorem OwnRows.in_ {w : World} {B n c : Nat} {A : Option Addr} {zss : List (List Int)} (h : OwnRows w B A n c zss) (b o : Nat) (e : A = some ⟨b, o, none⟩) : b < w.heap.size := by
  obtain ⟨_, vs, h2, _⟩ := h
  subst e
  exact (h2.lt b (by simp [Value.ownBlock])).2

set_option maxHeartbeats 1600000 in
set_option maxRecDepth 100000 in
/-- Marks written into lists that a call owns. -/
theorem markRows (B H : Nat) (A : Option Addr) (n c : Nat) (zss : List (List Int)) (m : Nat) (w : World) (h : OwnRows w B A n c zss) (hu : Under H w A n) (hm : m + lens zss ≤ 4000000000) :
    Calls Try.prog 25 #[.slice A n c, .int .i64 (m : Int)] w fun e w' => e = .returned (.int .i64 ((m + lens zss : Nat) : Int)) ∧ OwnRows w' B A n c (markL m zss) ∧ Marked B H w w' := by
  have hz := h.1
  have hn := rows_bound h.rows
  have hz' := hide hz
  replace hu := hide hu
  go_enter Try.func25, Try.ntmps25
  go_wp2_with fail
  go_loopw [1, 5] (fun mm i wr => ∃ k q : Nat, k ≤ n ∧ i = .int .i64 (k : Int) ∧ mm = .int .i64 (q : Int) ∧ q = m + lens (zss.take k) ∧ OwnRows wr B A n c (markL m (zss.take k) ++ zss.drop k) ∧ Marked B H w wr ∧ Under H wr A n) (fun _ i _ => n - (intOf i).toNat)
  case atStart => exact ⟨0, m, by omega, rfl, rfl, by simp [lens], by simpa [markL] using h, .refl _, hu.out⟩
  case round =>
    obtain ⟨k, q, hk, rfl, rfl, hq, ho, hmk, hws⟩ := hrel
    replace hws := hide hws
    by_cases hlt : k < n
    · obtain ⟨zs, hzk⟩ : ∃ zs, zss[k]? = some zs := ⟨_, List.getElem?_eq_getElem (by omega)⟩
      obtain ⟨b, o, A', c', rfl, hc1, hor, hset⟩ := ho.open_ (mark_mid (m := m) hzk)
      have hl1 := lens_take_succ hzk
      have hl2 := lens_take_le zss (k + 1)
      have hlb : q + zs.length ≤ 4000000000 := by omega
      replace hset := hide hset
      replace hzk := hide hzk
      replace hl1 := hide hl1
      replace hq := hide hq
      clear hl2 ho h hz
      go_wp2_with fail
      refine (markInts B _ _ _ _ q _ hor hlb).mono ?_
      rintro e w2 ⟨rfl, ho2, hg2⟩
      rw [← marks_map] at ho2
      have hg3 : ∀ k, (Value.slice A' zs.length c').ownBlock = some k → B ≤ k ∧ k < H := fun k hk => ⟨(hor.lt k hk).1, hws.out _ _ rfl _ _ _ _ hlt hc1 k hk⟩
      have hrow := hset.out _ _ (marks_len q zs.length) hg2 ho2
      obtain ⟨hrow, hsame⟩ := hrow
      rw [hq.out, markL_set hzk.out] at hrow
      have hmk2 := hide (hmk.step hg2 hg3)
      have hun : Under H w2 (some ⟨b, o, none⟩) n := by
        rintro b' o' e j A2 l c2 hj hc2 q hq
        cases e
        rw [hsame] at hc2
        exact hws.out _ _ rfl _ _ _ _ hj hc2 q hq
      replace hrow := hide hrow
      replace hun := hide hun
      clear hsame hg2 hg3 hc1 hor ho2 hset hmk hws hu
      go_wp2_with fail
      go_roundw
      case rel => exact ⟨k + 1, q + zs.length, by omega, by go_num, by go_num, by rw [hl1.out, hq.out]; omega, hrow.out, hmk2.out, hun.out⟩
      case measure => simp [intOf]; omega
    · obtain rfl : k = n := by omega
      rw [List.drop_of_length_le (by rw [hz'.out]; exact Nat.le_refl _), List.append_nil, List.take_of_length_le (by rw [hz'.out]; exact Nat.le_refl _)] at ho
      rw [List.take_of_length_le (by rw [hz'.out]; exact Nat.le_refl _)] at hq
      subst hq
      go_wp2_with fail
      go_ret
      exact ⟨rfl, ho, hmk⟩
set_option maxRecDepth 100000 in
theorem markTab (B H : Nat) (m : Int) (A : Option Addr) (n c : Nat) (zss : List (List Int)) (q : Nat) (w : World) (h : OwnRows w B A n c zss) (hu : Under H w A n) (hm : q + lens zss ≤ 4000000000) (hAB : ∀ b o, A = some ⟨b, o, none⟩ → b < w.heap.size) (hH : H ≤ w.heap.size) :
    Calls Try.prog 9 #[.agg #[.int .i64 m, .slice A n c], .int .i64 (q : Int)] w fun e w' => e = .returned (.int .i64 ((q + lens zss : Nat) : Int)) ∧ OwnRows w' B A n c (markL q zss) ∧ Marked B H w w' := by
  have h1 := fun t => h.alloc (.cells #[.int .i64 m, .slice A n c] t)
  have hu1 : ∀ t, Under H (w.alloc (.cells #[.int .i64 m, .slice A n c] t)) A n := by
    rintro t b o e j A2 l c2 hj hc2
    rw [World.cell?_alloc_lt _ _ _ (hAB b o e)] at hc2
    exact hu b o e j A2 l c2 hj hc2
  have hmk0 : ∀ t, Marked B H w (w.alloc (.cells #[.int .i64 m, .slice A n c] t)) := fun t => (Marked.refl w).step (World.grownBy_alloc w _ none) (by simp)
  replace hmk0 := hide hmk0
  replace hu := hide hu
  replace hu1 := hide hu1
  replace hAB := hide hAB
  replace h1 := hide h1
  go_enter Try.func9, Try.ntmps9
  go_wp2_with fail
  refine (markRows B H _ _ _ _ q _ (h1.out _) (hu1.out _) hm).mono ?_
  rintro e w2 ⟨rfl, ho2, hmk⟩
  go_wp2_with fail
  go_ret
  exact ⟨rfl, ho2, (hmk0.out _).trans hmk⟩
theorem markTab1 (B H : Nat) (m : Int) (A : Option Addr) (n c : Nat) (zss : List (List Int)) (w : World) (h : OwnRows w B A n c zss) (hu : Under H w A n) (hm : lens zss ≤ 3000000000) (hH : H ≤ w.heap.size) :
    Calls Try.prog 9 #[.agg #[.int .i64 m, .slice A n c], .int .i64 1] w fun e w' => e = .returned (.int .i64 (1 + (lens zss : Int))) ∧ OwnRows w' B A n c (markL 1 zss) ∧ Marked B H w w' := by
  have e := markTab B H m A n c zss 1 w h hu (by omega) h.in_ hH
  rw [show ((1 : Nat) : Int) = 1 from rfl, show ((1 + lens zss : Nat) : Int) = 1 + (lens zss : Int) by omega] at e
  exact e
end Go.Proofs.Ytooiobcghobefaa
