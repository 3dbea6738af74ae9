/-
  The walk of the law FnExactParseTable: it returns true: the program's ParseTable answers as the reference's, in new memory.
  Conditions: the library's own variables hold what its text lays.
-/
import Derived.Test.YtooiobcghobefaaDoorPtI
import Derived.Test.YtooiobcghobefaaDoorHeldT
namespace Go.Proofs.YtooiobcghobefaaDoor.lParseTable
open Go.RowKit
set_option linter.unusedVariables false

theorem ptR_lens (l : List UInt8) : lens (ptR l) ≤ 200 := by
  unfold ptR
  split
  · rename_i h
    obtain ⟨M, _, _, h1, h2, h3⟩ := tab_parts (ptG_tab h).1
    have : ∀ zss : List (List Int), (∀ zs ∈ zss, zs.length ≤ 5) → lens zss ≤ 5 * zss.length := by
      intro zss
      induction zss with
      | nil => intro _; simp [lens]
      | cons a r ih =>
        intro hz
        have h4 := ih fun z hz2 => hz z (List.mem_cons_of_mem _ hz2)
        have h5 := hz a (by simp)
        simp only [lens, List.map_cons, List.sum_cons, List.length_cons] at h4 ⊢
        omega
    have := this (ptZ l) fun zs hz => by have := (h3 zs hz).1; omega
    omega
  · simp [lens]
set_option maxHeartbeats 1600000 in
set_option maxRecDepth 100000 in
theorem walk (a : ByteArray) (wa : a.size ≤ maxLen) (M : Int) (w : World) (hM : w.cell? ⟨2, 0, none⟩ = some (.int .i64 M)) (hm : Tabs w ∧ Errs w) : Calls Tryd.prog 3 #[.string a] w (RetVal w (.bool true)) := by
  obtain ⟨ht, he⟩ := hm
  rw [str_of]
  obtain ⟨l, hs⟩ : ∃ l, l = a.data.toList := ⟨_, rfl⟩
  rw [← hs]
  clear hs wa
  have h0 := World.block_lt_of_cell? w _ hM
  have hMl := hide (fun (W : World) (hW : Below w.heap.size w W) => (hW.cell (p := ⟨2, 0, none⟩) h0).trans hM)
  clear hM
  by_cases hbig : 1048576 < l.length
  · have d0 : decide ((1048576 : Int) < (l.length : Int)) = true := by simp; omega
    replace ht := hide ht; replace he := hide he
    go_enter Tryd.func3, Tryd.ntmps3
    go_wp2_with fail
    go_ret
    exact ⟨rfl, Below.refl _ _⟩
  · have d0 : decide ((1048576 : Int) < (l.length : Int)) = false := by simp; omega
    have c1 := specPt l w (by omega)
    have c2 := fun (W : World) (hW : Below w.heap.size w W) => implPt l M W (by omega) (ht.below hW) (he.below hW) (hMl.out W hW)
    have hlens := ptR_lens l
    unfold RetPt at c1 c2
    generalize ptM l = m at c1 c2
    generalize ptG l = g at c1 c2
    generalize ptR l = R at c1 c2 hlens
    have heq := hide (tabEqB_same m R)
    have hgg : (g != g) = false := by simp
    replace c1 := hide c1
    replace c2 := hide c2
    replace ht := hide ht; replace he := hide he
    replace h0 := hide h0
    clear hbig
    go_enter Tryd.func3, Tryd.ntmps3
    go_wp2_with fail
    refine c1.out.mono ?_
    rintro e w1 ⟨A1, n1, c1', rfl, ho1, hb⟩
    obtain ⟨b3, hb3⟩ : ∃ b3, b3 = w1.heap.size := ⟨_, rfl⟩
    obtain ⟨wb, hwb⟩ : ∃ wb, wb = w1.alloc (.cells #[.int .i64 m, .slice A1 n1 c1'] 24) := ⟨_, rfl⟩
    have hbx : Below w1.heap.size w1 wb := by rw [hwb]; exact (Below.refl _ _).alloc (Nat.le_refl _) _
    have k0 : wb.cell? ⟨b3, 0, none⟩ = some (.int .i64 m) := by rw [hwb, hb3, World.cell?_alloc_at _ _ _ _ rfl]; rfl
    have k1 : wb.cell? ⟨b3, 1, none⟩ = some (.slice A1 n1 c1') := by rw [hwb, hb3, World.cell?_alloc_at _ _ _ _ rfl]; rfl
    have hk : b3 < wb.heap.size := by rw [hwb, hb3]; simp
    have rS := (ho1.below hbx).rows
    replace hb := below_call hb hbx
    replace hwb := hide hwb
    replace hb3 := hide hb3
    clear hbx ho1
    have cI := hide (c2.out wb hb)
    go_upto_region 4 with fail
    rw [← hwb.out, ← hb3.out]
    go_wp2_with fail
    refine cI.out.mono ?_
    rintro e w2 ⟨A2, n2, c2', rfl, ho2, hb1⟩
    have hu2 := ho2.under
    have hB0 : w.heap.size ≤ wb.heap.size := hb.size
    have hH : wb.heap.size ≤ w2.heap.size := hb1.size
    replace k0 := cell_below hb1 k0 hk
    replace k1 := cell_below hb1 k1 hk
    replace rS := rS.below hb1
    replace hb := below_call hb hb1
    obtain ⟨b5, hb5⟩ : ∃ b5, b5 = w2.heap.size := ⟨_, rfl⟩
    obtain ⟨wc, hwc⟩ : ∃ wc, wc = w2.alloc (.cells #[.int .i64 m, .slice A2 n2 c2'] 24) := ⟨_, rfl⟩
    have hbx : Below w2.heap.size w2 wc := by rw [hwc]; exact (Below.refl _ _).alloc (Nat.le_refl _) _
    have j0 : wc.cell? ⟨b5, 0, none⟩ = some (.int .i64 m) := by rw [hwc, hb5, World.cell?_alloc_at _ _ _ _ rfl]; rfl
    have j1 : wc.cell? ⟨b5, 1, none⟩ = some (.slice A2 n2 c2') := by rw [hwc, hb5, World.cell?_alloc_at _ _ _ _ rfl]; rfl
    have hj : b5 < wc.heap.size := by rw [hwc, hb5]; simp
    replace hu2 := hu2.below hbx (fun b o e => (ho2.in_ b o e))
    replace ho2 := ho2.below hbx
    replace k0 := cell_below hbx k0 (by omega)
    replace k1 := cell_below hbx k1 (by omega)
    replace rS := rS.below (hbx.mono hH)
    replace hb := below_call hb hbx
    have hH2 : w2.heap.size ≤ wc.heap.size := hbx.size
    obtain ⟨K, hK⟩ : ∃ K, K = w2.heap.size := ⟨_, rfl⟩
    rw [← hK] at hH hH2 hu2 hb5
    have hjK : K ≤ b5 := by omega
    replace hwc := hide hwc
    replace hb5 := hide hb5
    replace hK := hide hK
    clear hbx hb1
    go_upto_region 5 with fail
    rw [← hwc.out, ← hK.out, ← hb5.out]
    go_wp2_with fail
    refine (eqTab _ _ _ _ _ _ _ _ R R _ ho2.rows (rS.more (by omega))).mono ?_
    rintro e w3 ⟨rfl, hb1⟩
    rw [heq.out]
    replace hu2 := hu2.below hb1 (fun b o e => (ho2.in_ b o e))
    replace ho2 := ho2.below hb1
    replace rS := rS.below (hb1.mono (by omega))
    replace k0 := cell_below hb1 k0 (by omega)
    replace k1 := cell_below hb1 k1 (by omega)
    replace j0 := cell_below hb1 j0 hj
    replace j1 := cell_below hb1 j1 hj
    replace hj := Nat.lt_of_lt_of_le hj hb1.size
    replace hb := below_call hb hb1
    have hH3 := Nat.le_trans hH2 hb1.size
    clear hb1 hH2
    go_wp2_with fail
    refine (markTab1 wb.heap.size K _ _ _ _ _ _ ho2 hu2 (by omega) hH3).mono ?_
    rintro e w4 ⟨rfl, ho4, hmk⟩
    have hlow := hmk.low (by omega)
    replace rS := rS.below hlow
    replace k0 := (hlow.cell (p := ⟨b3, 0, none⟩) hk).trans k0
    replace k1 := (hlow.cell (p := ⟨b3, 1, none⟩) hk).trans k1
    replace j0 := hmk.later j0 hjK hj
    replace j1 := hmk.later j1 hjK hj
    replace hb := hb.trans (hlow.mono hB0)
    have hH4 := Nat.le_trans hH3 hmk.size
    replace hj := Nat.lt_of_lt_of_le hj hmk.size
    clear hlow hu2 ho2 hmk hH3
    go_wp2_with fail
    refine (heldTab1 _ _ _ _ _ _ ho4.rows (by omega)).mono ?_
    rintro e w5 ⟨rfl, hb1⟩
    replace ho4 := ho4.below hb1
    replace rS := rS.below (hb1.mono (by omega))
    replace k0 := cell_below hb1 k0 (by omega)
    replace k1 := cell_below hb1 k1 (by omega)
    replace j0 := cell_below hb1 j0 hj
    replace j1 := cell_below hb1 j1 hj
    replace hj := Nat.lt_of_lt_of_le hj hb1.size
    replace hb := below_call hb hb1
    have hH5 := Nat.le_trans hH4 hb1.size
    clear hb1 hH4
    have d1 : decide (1 + (lens R : Int) < 0) = false := by simp; omega
    have d2 : ((1 + (lens R : Int)) != (1 + (lens R : Int))) = false := by simp
    have cJ := hide (c2.out w5 hb)
    go_wp2_with fail
    refine cJ.out.mono ?_
    rintro e w6 ⟨A6, n6, c6', rfl, ho6, hb1⟩
    replace ho4 := ho4.below hb1
    replace rS := rS.below (hb1.mono (by omega))
    replace k0 := cell_below hb1 k0 (by omega)
    replace k1 := cell_below hb1 k1 (by omega)
    replace j0 := cell_below hb1 j0 hj
    replace j1 := cell_below hb1 j1 hj
    replace hj := Nat.lt_of_lt_of_le hj hb1.size
    replace hb := below_call hb hb1
    have hH6 := Nat.le_trans hH5 hb1.size
    obtain ⟨wd, hwd⟩ : ∃ wd, wd = w6.alloc (.cells #[.int .i64 m, .slice A6 n6 c6'] 24) := ⟨_, rfl⟩
    have hbx : Below w6.heap.size w6 wd := by rw [hwd]; exact (Below.refl _ _).alloc (Nat.le_refl _) _
    obtain ⟨b9, hb9⟩ : ∃ b9, b9 = w6.heap.size := ⟨_, rfl⟩
    have q0 : wd.cell? ⟨b9, 0, none⟩ = some (.int .i64 m) := by rw [hwd, hb9, World.cell?_alloc_at _ _ _ _ rfl]; rfl
    have q1 : wd.cell? ⟨b9, 1, none⟩ = some (.slice A6 n6 c6') := by rw [hwd, hb9, World.cell?_alloc_at _ _ _ _ rfl]; rfl
    replace ho4 := ho4.below hbx
    replace ho6 := ho6.below hbx
    replace rS := rS.below (hbx.mono (by omega))
    replace k0 := cell_below hbx k0 (by omega)
    replace k1 := cell_below hbx k1 (by omega)
    replace j0 := cell_below hbx j0 hj
    replace j1 := cell_below hbx j1 hj
    replace hj := Nat.lt_of_lt_of_le hj hbx.size
    replace hb := below_call hb hbx
    have hH7 := Nat.le_trans hH6 hbx.size
    replace hwd := hide hwd
    replace hb9 := hide hb9
    clear hb1 hbx hH5 hH6
    go_upto_region 16 with fail
    rw [← hwd.out, ← hb9.out]
    go_wp2_with fail
    refine (eqTab _ _ _ _ _ _ _ _ R R _ ho6.rows (rS.more (by omega))).mono ?_
    rintro e w7 ⟨rfl, hb1⟩
    rw [heq.out]
    replace ho4 := ho4.below hb1
    replace j0 := cell_below hb1 j0 hj
    replace j1 := cell_below hb1 j1 hj
    replace hb := below_call hb hb1
    clear hb1 q0 q1 k0 k1 rS ho6 hj
    go_wp2_with fail
    refine (heldTab1 _ _ _ _ _ _ ho4.rows (by omega)).mono ?_
    rintro e w8 ⟨rfl, hb1⟩
    replace hb := below_call hb hb1
    clear hb1
    go_wp2_with fail
    go_ret
    exact ⟨rfl, hb⟩

end Go.Proofs.YtooiobcghobefaaDoor.lParseTable
