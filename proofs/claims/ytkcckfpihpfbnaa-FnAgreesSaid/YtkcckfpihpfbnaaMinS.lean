/-
  MinimalSets of the reference and of the program.
  Conditions: as each theorem says.
-/
import Derived.Test.YtkcckfpihpfbnaaSets
namespace Go.Proofs.Ytkcckfpihpfbnaa
open Go.RowKit
set_option linter.unusedVariables false

set_option maxHeartbeats 3200000 in
set_option maxRecDepth 100000 in
theorem specMin (A : Option Addr) (n c : Nat) (zs : List Int) (w : World) (h : Reads w w.heap.size A n (zs.map (Value.int .i64))) :
    Calls Try.prog 30 #[.slice A n c] w (RetRow 3 w ((topL false zs).map (Value.int .i64))) := by
  have hn := h.bound
  have lx := ints_len h
  rcases hs : setsB zs with _ | _
  · have e := hide (show topL false zs = [] by unfold topL; rw [hs]; rfl)
    have hs' := hide hs
    clear hs
    have h' : ∀ t, Reads (w.alloc (.cells #[] t)) (w.alloc (.cells #[] t)).heap.size A n (zs.map (Value.int .i64)) := fun t => (h.alloc (Nat.le_refl _) _).more (by simp)
    replace h' := hide h'
    clear lx h
    go_enter Try.func30, Try.ntmps30
    go_wp2_with fail
    refine wp_loop_rounds 1 ?_
    rw [rounds_succ]
    by_cases h0 : 0 < n
    · have d0 : decide ((0 : Int) < (n : Int)) = true := by simp; omega
      go_wp2_with (go_at_call 89; refine (l4sets _ _ _ zs _ (h'.out _)).mono ?_; rintro e' w' ⟨rfl, rfl⟩; rw [hs'.out])
      go_ret
      exact ⟨_, 0, 0, rfl, by rw [e.out]; exact own_start w _, (Below.refl _ _).alloc (Nat.le_refl _) _⟩
    · have d0 : decide ((0 : Int) < (n : Int)) = false := by simp; omega
      go_wp2_with fail
      go_ret
      exact ⟨_, 0, 0, rfl, by rw [e.out]; exact own_start w _, (Below.refl _ _).alloc (Nat.le_refl _) _⟩
  have hle := setsB_le hs
  have hs' := hide hs
  have lx' := hide lx
  have hle' := hide hle.2
  have n100 : n ≤ 100 := by omega
  clear hs lx hle
  go_enter Try.func30, Try.ntmps30
  go_wp2_with fail
  go_loopw [3, 4, 5, 6] (fun out i _ _ wr => ∃ (k N d : Nat) (A' : Option Addr) (ys : List Int), k ≤ n ∧ i = .int .i64 (k : Int) ∧ out = .slice A' N d ∧ wr.ownsRow w.heap.size 3 1 (.slice A' N d) N (ys.map (Value.int .i64)) ∧ Below w.heap.size w wr ∧ TopInv false zs k ys) (fun _ i _ _ _ => n - (intOf i).toNat)
  case atStart => exact ⟨0, 0, 0, _, [], by omega, rfl, rfl, own_start w _, (Below.refl _ _).alloc (Nat.le_refl _) _, List.Pairwise.nil, fun z => by simp, by simp⟩
  case round =>
    obtain ⟨k, N, d, A', ys, hk, rfl, rfl, hown, hb, hinv⟩ := hrel
    have hN : N ≤ 100 := by have h1 := own_len hown; rw [List.length_map] at h1; have := hinv.2.2; omega
    replace hinv := hide hinv
    by_cases hlt : k < n
    · have h1 := (h.below hb).more (B' := wr.heap.size) hb.size
      obtain ⟨b, o, x, rfl, hbb, hx, hc⟩ := at_int (h.below hb) hlt
      have hx31 := hle'.out x (List.mem_of_getElem? hx)
      replace hx := hide hx
      replace h1 := hide h1
      go_wp2_with (go_at_call 89; refine (l4sets _ _ _ zs _ h1.out).mono ?_; rintro e' w' ⟨rfl, rfl⟩; rw [hs'.out])
      go_loopw [5, 6] (fun top j wq => ∃ q : Nat, q ≤ n ∧ j = .int .i64 (q : Int) ∧ top = .bool ((zs.take q).all (okB false x)) ∧ wq.ownsRow w.heap.size 3 1 (.slice A' N d) N (ys.map (Value.int .i64)) ∧ Below w.heap.size w wq) (fun _ j _ => n - (intOf j).toNat)
      case atStart => exact ⟨0, by omega, rfl, by simp, hown, hb⟩
      case round =>
        clear hown hc h1
        obtain ⟨o3, ho3⟩ : ∃ o3, o3 = o := ⟨_, rfl⟩
        obtain ⟨q, hq, rfl, rfl, hown, hbq⟩ := hrel
        have hrq := h.below hbq
        obtain ⟨b1, o1, x1, e1, hbb1, hx1, hc1⟩ := at_int hrq hlt
        cases e1
        rw [hx.out] at hx1
        cases hx1
        by_cases hql : q < n
        · obtain ⟨b2, o2, y, e2, hbb2, hy, hc2⟩ := at_int hrq hql
          cases e2
          have hstep := hide (all_take1 (okB false x) hy)
          have hok := ok_andy x y hx31 (hle'.out y (List.mem_of_getElem? hy))
          replace hy := hide hy
          replace hx := hide hx.out
          clear hrq
          rcases ht : (zs.take q).all (okB false x) with _ | _
          · rw [ht, Bool.false_and] at hstep
            clear hok ht
            go_wp2_with fail
            go_quiet (fail)
            go_wp2_with fail
            go_roundw
            case rel => exact ⟨q + 1, by omega, by go_num, by rw [hstep.out], hown, below_drewN hbq _⟩
            case measure => simp [intOf]; omega
          · rw [ht, Bool.true_and] at hstep
            clear ht
            rcases d1 : (y == x) with _ | _
            · rcases d2 : (bits BinOp.and IntKind.i64 x y != y) with _ | _
              · have e3 := hide (show okB false x y = false by rw [hok, d1, d2]; rfl)
                clear hok
                go_wp2_with fail
                go_quiet (fail)
                go_wp2_with fail
                go_roundw
                case rel => exact ⟨q + 1, by omega, by go_num, by rw [hstep.out, e3.out], hown, below_drewN hbq _⟩
                case measure => simp [intOf]; omega
              · have e3 := hide (show okB false x y = true by rw [hok, d1, d2]; rfl)
                clear hok
                go_wp2_with fail
                go_quiet (fail)
                go_wp2_with fail
                go_roundw
                case rel => exact ⟨q + 1, by omega, by go_num, by rw [hstep.out, e3.out], hown, below_drewN hbq _⟩
                case measure => simp [intOf]; omega
            · have e3 := hide (show okB false x y = true by rw [hok, d1]; rfl)
              clear hok
              go_wp2_with fail
              go_quiet (fail)
              go_wp2_with fail
              go_roundw
              case rel => exact ⟨q + 1, by omega, by go_num, by rw [hstep.out, e3.out], hown, below_drewN hbq _⟩
              case measure => simp [intOf]; omega
        · obtain rfl : q = n := by omega
          have hke := lx'.out
          clear hrq
          have htop : (zs.take q).all (okB false x) = topB false zs x := by rw [← hke, List.take_length]; rfl
          rw [htop]
          replace hke := hide hke
          replace htop := hide htop
          rcases ht : topB false zs x with _ | _
          · have hnext := hide (hinv.out.skip hx.out ht)
            replace ht := hide ht
            replace hx := hide hx.out
            go_wp2_with fail
            go_roundw
            case rel => exact ⟨k + 1, N, d, A', ys, by omega, by go_num, rfl, hown, hbq, hnext.out⟩
            case measure => simp [intOf]; omega
          · have hput := hide (l4put w.heap.size A' N d ys x wr hown (by omega) hbq.size)
            have hnext : ∀ ys', PutP ys x ys' → TopInv false zs (k + 1) ys' := fun ys' hp => hinv.out.put hx.out ht hp
            replace hnext := hide hnext
            replace ht := hide ht
            replace hx := hide hx.out
            go_wp2_with fail
            refine hput.out.mono ?_
            rintro e w2 ⟨A2, N2, c2, ys2, hp2, rfl, ho2, hb2⟩
            have hnext2 := hide (hnext.out _ hp2)
            replace hp2 := hide hp2
            have hb3 := hbq.trans (hb2.mono hbq.size)
            go_wp2_with fail
            go_roundw
            case rel => exact ⟨k + 1, N2, c2, A2, ys2, by omega, by go_num, rfl, ho2, hb3, hnext2.out⟩
            case measure => simp [intOf]; omega
    · obtain rfl : k = n := by omega
      have hke := lx'.out
      have hfin := hide (show ys = topL false zs from TopInv.done (by rw [hke]; exact hinv.out) hs'.out)
      replace hke := hide hke
      go_wp2_with fail
      go_ret
      exact ⟨A', N, d, rfl, by rw [← hfin.out]; exact hown, hb⟩
set_option maxHeartbeats 3200000 in
set_option maxRecDepth 100000 in
theorem implMin (A : Option Addr) (n c : Nat) (zs : List Int) (w : World) (h : Reads w w.heap.size A n (zs.map (Value.int .i64))) (hA : A = none → c = 0) :
    Calls Try.prog 27 #[.slice A n c] w (RetRow 3 w ((topL false zs).map (Value.int .i64))) := by
  have hn := h.bound
  have lx := ints_len h
  have h' : ∀ t, Reads (w.alloc (.cells #[] t)) (w.alloc (.cells #[] t)).heap.size A n (zs.map (Value.int .i64)) := fun t => (h.alloc (Nat.le_refl _) _).more (by simp)
  rcases hs : setsB zs with _ | _
  · have e := hide (show topL false zs = [] by unfold topL; rw [hs]; rfl)
    have hs' := hide hs
    clear hs
    replace h' := hide h'
    clear lx h
    go_enter Try.func27, Try.ntmps27
    go_wp2_with (go_at_call 87; refine (aresets _ _ _ zs _ (h'.out _)).mono ?_; rintro e' w' ⟨rfl, rfl⟩; rw [hs'.out])
    go_ret
    exact ⟨_, 0, 0, rfl, by rw [e.out]; exact own_start w _, (Below.refl _ _).alloc (Nat.le_refl _) _⟩
  have hle := setsB_le hs
  have hs' := hide hs
  have lx' := hide lx
  have hle' := hide hle.2
  have n100 : n ≤ 100 := by omega
  have eT : topL false zs = (distL zs).filter (topB false zs) := by unfold topL; rw [if_pos hs]
  have hdl := distL_len zs
  have hdm : ∀ x ∈ distL zs, 0 ≤ x ∧ x ≤ 31 := fun x hx => hle.2 x (((distL_ok zs).2 x).1 hx)
  obtain ⟨dl, hdl0⟩ : ∃ dl, dl = distL zs := ⟨_, rfl⟩
  rw [← hdl0] at eT hdl hdm
  replace eT := hide eT
  replace h' := hide h'
  replace hdm := hide hdm
  clear hs lx hle
  go_enter Try.func27, Try.ntmps27
  go_wp2_with (go_at_call 87; refine (aresets _ _ _ zs _ (h'.out _)).mono ?_; rintro e' w' ⟨rfl, rfl⟩; rw [hs'.out])
  refine (implDist A n c zs _ (h'.out _) hA (by omega)).mono ?_
  rintro e w1 ⟨A1, L, c1, rfl, ho1, hb1⟩
  rw [← hdl0] at ho1
  have hL : L = dl.length := by have := own_len ho1; simpa using this.symm
  have hbx := below_box hb1
  have hs1 : w.heap.size < w1.heap.size := by have := hb1.size; simp at this; omega
  have hout : w1.ownsRow w.heap.size 3 1 (.slice (some ⟨w.heap.size, 0, none⟩) 0 0) 0 (([] : List Int).map (Value.int .i64)) := own_below (own_start w _) hb1
  have hdis : ∀ k, (Value.slice A1 L c1).ownBlock = some k → (Value.slice (some ⟨w.heap.size, 0, none⟩) 0 0).ownBlock ≠ some k := by
    intro k hk he
    have := (ho1.lt k hk).1
    simp [Value.ownBlock] at he
    simp at this
    omega
  replace ho1 := own_more ho1 (B' := w.heap.size) (by simp)
  have hrL := hide ho1
  clear hb1 h' hdl0
  replace hL := hide hL
  have hdis' := hide hdis
  clear hdis
  have hnL : L ≤ 100 := by rw [hL.out]; have := lx'.out; omega
  clear hdl
  go_wp2_with fail
  go_loopw [3, 5, 6, 8, 17, 23] (fun out _ _ _ i _ wr => ∃ (k N d : Nat) (A' : Option Addr), k ≤ L ∧ i = .int .i64 (k : Int) ∧ out = .slice A' N d ∧ wr.ownsRow w.heap.size 3 1 (.slice A' N d) N (((dl.take k).filter (topB false zs)).map (Value.int .i64)) ∧ Below w.heap.size w wr ∧ wr.ownsRow w.heap.size 3 1 (.slice A1 L c1) L (dl.map (Value.int .i64)) ∧ (∀ g, (Value.slice A1 L c1).ownBlock = some g → (Value.slice A' N d).ownBlock ≠ some g)) (fun _ _ _ _ i _ _ => L - (intOf i).toNat)
  case atStart => exact ⟨0, 0, 0, _, by omega, rfl, rfl, hout, hbx, hrL.out, hdis'.out⟩
  case round =>
    clear hout hbx hrL hdis' ho1
    obtain ⟨k, N, d, A', hk, rfl, rfl, hown, hb, hdl2, hdis⟩ := hrel
    have hN : N ≤ 100 := by have h1 := own_len hown; rw [List.length_map] at h1; have h2 := List.length_filter_le (topB false zs) (dl.take k); rw [List.length_take] at h2; omega
    by_cases hlt : k < L
    · obtain ⟨b0, o0, x, rfl, hbb0, hx, hc0⟩ := at_int (Reads.of_own hdl2) hlt
      have hx31 := hdm.out x (List.mem_of_getElem? hx)
      replace hdis := hide hdis
      replace hx := hide hx
      replace hdl2 := hide hdl2
      replace hown := hide hown
      go_wp2_with fail
      go_loopw [6, 8, 23] (fun top _ j wq => ∃ q : Nat, q ≤ n ∧ j = .int .i64 (q : Int) ∧ top = .bool ((zs.take q).all (okB false x)) ∧ wq.ownsRow w.heap.size 3 1 (.slice A' N d) N (((dl.take k).filter (topB false zs)).map (Value.int .i64)) ∧ Below w.heap.size w wq ∧ wq.ownsRow w.heap.size 3 1 (.slice (some ⟨b0, o0, none⟩) L c1) L (dl.map (Value.int .i64))) (fun _ _ j _ => n - (intOf j).toNat)
      case atStart => exact ⟨0, by omega, rfl, by simp, hown.out, hb, hdl2.out⟩
      case round =>
        clear hown hc0 hdl2 hb hbb0
        obtain ⟨q, hq, rfl, rfl, hown, hbq, hdl2⟩ := hrel
        by_cases hql : q < n
        · obtain ⟨b2, o2, y, e2, hbb2, hy, hc2⟩ := at_int (h.below hbq) hql
          subst e2
          have hstep := hide (all_take1 (okB false x) hy)
          have hok : okB false x y = ((x == y) || !(insB y x)) := by unfold okB; rw [if_neg (by simp), show (y == x) = (x == y) from BEq.comm]
          replace hy := hide hy
          rcases ht : (zs.take q).all (okB false x) with _ | _
          · rw [ht, Bool.false_and] at hstep
            clear hok ht
            replace hown := hide hown
            replace hdl2 := hide hdl2
            go_wp2_with fail
            go_roundw
            case rel => exact ⟨q + 1, by omega, by go_num, by rw [hstep.out], hown.out, hbq, hdl2.out⟩
            case measure => simp [intOf]; omega
          · rw [ht, Bool.true_and] at hstep
            clear ht
            replace hown := hide hown
            replace hdl2 := hide hdl2
            rcases d1 : (x == y) with _ | _
            · rcases d2 : insB y x with _ | _
              · have e3 := hide (show okB false x y = true by rw [hok, d1, d2]; rfl)
                replace d2 := hide d2
                clear hok
                go_wp2_with (go_at_call 88; refine (inside_any _ _ _).mono ?_; rintro e w' ⟨rfl, rfl⟩; rw [d2.out])
                go_roundw
                case rel => exact ⟨q + 1, by omega, by go_num, by rw [hstep.out, e3.out], hown.out, hbq, hdl2.out⟩
                case measure => simp [intOf]; omega
              · have e3 := hide (show okB false x y = false by rw [hok, d1, d2]; rfl)
                replace d2 := hide d2
                clear hok
                go_wp2_with (go_at_call 88; refine (inside_any _ _ _).mono ?_; rintro e w' ⟨rfl, rfl⟩; rw [d2.out])
                go_roundw
                case rel => exact ⟨q + 1, by omega, by go_num, by rw [hstep.out, e3.out], hown.out, hbq, hdl2.out⟩
                case measure => simp [intOf]; omega
            · have e3 := hide (show okB false x y = true by rw [hok, d1]; rfl)
              clear hok
              go_wp2_with fail
              go_roundw
              case rel => exact ⟨q + 1, by omega, by go_num, by rw [hstep.out, e3.out], hown.out, hbq, hdl2.out⟩
              case measure => simp [intOf]; omega
        · obtain rfl : q = n := by omega
          have hke := lx'.out
          have htop : (zs.take q).all (okB false x) = topB false zs x := by rw [← hke, List.take_length]; rfl
          rw [htop]
          replace hke := hide hke
          replace htop := hide htop
          have hstep := hide (filter_take_succ (topB false zs) hx.out)
          replace hx := hide hx.out
          rcases ht : topB false zs x with _ | _
          · rw [ht] at hstep
            replace ht := hide ht
            replace hown := hide hown
            replace hdl2 := hide hdl2
            go_wp2_with fail
            go_roundw
            case rel => exact ⟨k + 1, N, d, A', by omega, by go_num, rfl, by rw [hstep.out]; simpa using hown.out, hbq, hdl2.out, hdis.out⟩
            case measure => simp [intOf]; omega
          · rw [ht] at hstep
            replace ht := hide ht
            replace hdl2 := hide hdl2
            go_wp2_with (at_builtin; refine wpList_push elemInt rfl (.tmp 41) (.tmp 43) wr (.int .i64 x) rfl w.heap.size (.slice A' N d) N _ rfl rfl hown rfl (by omega) hbq.size ?_; intro A2 c2 w2 hown2 hg2 hat2; have hb2 := below_push hbq hbq.size hown hg2)
            have hdl3 := hide (World.ownsRow.kept hdl2.out hg2 (by
              rcases hq0 : (Value.slice (some ⟨b0, o0, none⟩) L c1).ownBlock with _ | g
              · exact .inl rfl
              · exact .inr fun he => hdis.out g hq0 he.symm))
            have hdis2 : ∀ g, (Value.slice (some ⟨b0, o0, none⟩) L c1).ownBlock = some g → (Value.slice A2 (N + 1) c2).ownBlock ≠ some g := by
              intro g hg0 he
              rcases hat2 with h2 | ⟨g2, h2, h3⟩
              · exact hdis.out g hg0 (h2 ▸ he)
              · rw [h2] at he
                have e2 : g2 = g := Option.some.inj he
                have := (hdl2.out.lt g hg0).2
                omega
            replace hdis2 := hide hdis2
            clear hat2
            go_wp2_with fail
            go_roundw
            case rel => exact ⟨k + 1, N + 1, c2, A2, by omega, by go_num, rfl, by rw [hstep.out, List.map_append]; exact hown2, hb2, hdl3.out, hdis2.out⟩
            case measure => simp [intOf]; omega
    · obtain rfl : k = L := by omega
      have hfin := hide (show (dl.take k).filter (topB false zs) = topL false zs by rw [eT.out, hL.out, List.take_length])
      replace hdis := hide hdis
      go_wp2_with fail
      go_ret
      exact ⟨A', N, d, rfl, by rw [← hfin.out]; exact hown, hb⟩
end Go.Proofs.Ytkcckfpihpfbnaa
