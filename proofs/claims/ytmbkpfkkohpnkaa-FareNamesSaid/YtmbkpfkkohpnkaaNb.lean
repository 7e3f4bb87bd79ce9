import Derived.Test.YtmbkpfkkohpnkaaNa
import Derived.Test.YtmbkpfkkohpnkaaSw
set_option linter.unusedVariables false
set_option linter.unusedSimpArgs false
namespace Go.Proofs.Ytmbkpfkkohpnkaa
open Go Go.Proofs Go.RowKit

theorem nums_nil (W : World) : NumsAt .i64 W (.slice none 0 0) [] := ⟨none, 0, rfl, by simp, by simp [maxLen], by simp⟩
set_option maxRecDepth 100000 in
set_option maxHeartbeats 16000000 in
theorem Names_law (w : World) : Calls Try.prog 14 #[] w (Gives w (.bool true)) := by
  have hw0 : Below w.heap.size w w := Below.refl _ _
  obtain ⟨i0, hi0, hz0, hz1, hz2⟩ := info_parts info_rdF
  obtain ⟨i1, hi1, hy0, hy1', hy2'⟩ := info_parts info_tpF
  go_enter Try.func14, Try.ntmps14
  go_wp2_with fail
  refine (city_any _).mono ?_
  rintro e c1 ⟨a1, b1, d1, rfl, hT1, hc1⟩
  have HB2 := Lib.hid (hw0.trans ((hc1).mono hw0.size))
  have HT1 := Lib.hid (hT1)
  clear hc1 hT1
  have hal := ((Below.refl c1.heap.size c1).alloc (Nat.le_refl _) (.cells #[.int .i64 0, .int .i64 480, .int .i64 0, .int .i64 0, .int .i64 1, .int .i64 480, .int .i64 2, .int .i64 2, .int .i64 2, .int .i64 480, .int .i64 0, .int .i64 2] 70))
  have hrd := rds_blk (W := c1.alloc (.cells #[.int .i64 0, .int .i64 480, .int .i64 0, .int .i64 0, .int .i64 1, .int .i64 480, .int .i64 2, .int .i64 2, .int .i64 2, .int .i64 480, .int .i64 0, .int .i64 2] 70)) threeL 3 rfl (by omega) (heap_alloc_new c1 _)
  go_wp2_with fail
  refine (Tickets_any cityT a1 b1 d1 _ threeL _ (HT1.out.below hal) hrd (by decide)).mono ?_
  rintro e t1 ⟨ht1, _, hg⟩
  obtain ⟨TA1, tk1, rfl, _⟩ := hg val_three.1
  rw [val_three.2]
  generalize (chargeT cityT (onceL threeL)).2.length = tn1
  have hz3 := hal.trans (ht1.mono hal.size)
  have HB4 := Lib.hid (HB2.out.trans ((hz3).mono HB2.out.size))
  have HT1 := Lib.hid (HT1.out.below (hz3))
  clear hz3
  clear hal hrd ht1 hg
  clear HT1
  go_wp2_with fail
  refine (city_any _).mono ?_
  rintro e c5 ⟨a5, b5, d5, rfl, hT5, hc5⟩
  have HB6 := Lib.hid (HB4.out.trans ((hc5).mono HB4.out.size))
  have HT5 := Lib.hid (hT5)
  clear hc5 hT5
  go_wp2_with fail
  refine (tapped_any _).mono ?_
  rintro e x7 ⟨X7, rfl, hx7, hb7, _⟩
  have HB8 := Lib.hid (HB6.out.trans ((hb7).mono HB6.out.size))
  have HT5 := Lib.hid (HT5.out.below (hb7))
  have HX7 := Lib.hid (hx7)
  clear hb7 hx7
  have hal9 := ((Below.refl x7.heap.size x7).alloc (Nat.le_refl _) (.cells #[.int .i64 4, .int .i64 1, .int .i64 0, .int .i64 0] 3))
  have hin9 := ints_blk (W := x7.alloc (.cells #[.int .i64 4, .int .i64 1, .int .i64 0, .int .i64 0] 3)) [4, 1, 0, 0] 4 rfl (by omega) (heap_alloc_new x7 _)
  go_wp2_with fail
  refine (Missing_any cityT a5 b5 d5 _ _ tappedL [4, 1, 0, 0] _ (HT5.out.below hal9) (HX7.out.below hal9) hin9 (by decide)).mono ?_
  rintro e m9 ⟨hm9, hbad9, hgood9⟩
  have hz10 := hal9.trans (hm9.mono hal9.size)
  have HB11 := Lib.hid (HB8.out.trans ((hz10).mono HB8.out.size))
  have HT5 := Lib.hid (HT5.out.below (hz10))
  have HX7 := Lib.hid (HX7.out.below (hz10))
  clear hz10
  clear hal9 hin9 hm9 hbad9
  obtain ⟨MA, mk, rfl, hrm⟩ := hgood9 val_miss.1
  rw [val_miss.2] at hrm ⊢
  simp only [List.length_cons, List.length_nil] at hrm ⊢
  have HRm := Lib.hid (hrm)
  clear hrm hgood9
  clear HT5 HX7
  go_wp2_with fail
  refine (city_any _).mono ?_
  rintro e c12 ⟨a12, b12, d12, rfl, hT12, hc12⟩
  have HB13 := Lib.hid (HB11.out.trans ((hc12).mono HB11.out.size))
  have HRm := Lib.hid (HRm.out.below (hc12))
  have HT12 := Lib.hid (hT12)
  clear hc12 hT12
  go_wp2_with fail
  refine (tapped_blk _).mono ?_
  rintro e y1 ⟨Y1, rfl, hy1, hby1, hYs1⟩
  go_wp2_with fail
  refine (tapped_blk _).mono ?_
  rintro e y2 ⟨Y2, rfl, hy2, hby2, hYs2⟩
  have hY1 := (hby2.block Y1 (Array.getElem?_eq_some_iff.1 hy1).1).trans hy1
  have hbb : Below c12.heap.size c12 y2 := hby1.trans (hby2.mono hby1.size)
  have ho := own_blk (base := c12.heap.size) (size := 7) (n := 2) hY1 hYs1 (by simp [maxLen]) rfl
  have hsrc := src_box (m := 2) (size := 7) hy2 rfl
  go_wp2_with (at_builtin; refine wpList_append_src _ rfl (.tmp 43) (.tmp 44) 50 rfl c12.heap.size 91 i1 _ 7 56 Try.underlying50 hi1 hy0 hy1' hy2' rfl (by omega) _ 2 _ rfl ho (some ⟨Y2, 0, none⟩) 2 2 (tappedL.flatMap tpC) rfl hsrc (tps_one tappedL) (by simp [maxLen]) (by omega) hbb.size ?_; intro v6 w6 hown6 hg6 hat6; obtain ⟨A6, c6, rfl⟩ := own_form hown6)
  have hb6 := below_grown hbb hg6 hbb.size ho (Nat.le_refl _)
  have htp : TpsAt w6 (.slice A6 4 c6) (tappedL ++ tappedL) := tps_own (base := c12.heap.size) (e := 91) (n := 4) (by rw [List.flatMap_append]; exact hown6)
  have HB14 := Lib.hid (HB13.out.trans ((hb6).mono HB13.out.size))
  have HRm := Lib.hid (HRm.out.below (hb6))
  have HT12 := Lib.hid (HT12.out.below (hb6))
  have HTp := Lib.hid (htp)
  clear ho hsrc hbb hY1 hy1 hy2 hby1 hby2 hYs1 hYs2 hown6 hg6 hat6 hb6 htp
  have hal := ((Below.refl w6.heap.size w6).alloc (Nat.le_refl _) (.cells #[.int .i64 4, .int .i64 1, .int .i64 0, .int .i64 0] 3))
  have hin := ints_blk (W := w6.alloc (.cells #[.int .i64 4, .int .i64 1, .int .i64 0, .int .i64 0] 3)) [4, 1, 0, 0] 4 rfl (by omega) (heap_alloc_new w6 _)
  go_wp2_with fail
  refine (Charges_any cityT a12 b12 d12 _ _ (tappedL ++ tappedL) [4, 1, 0, 0] _ (HT12.out.below hal) (HTp.out.below hal) hin (by decide)).mono ?_
  rintro e t3 ⟨ht3, _, hg⟩
  obtain ⟨DA, dk, rfl, hdu⟩ := hg val_dues.1
  rw [val_dues.2] at hdu ⊢
  simp only [List.length_cons, List.length_nil] at hdu ⊢
  have hz15 := hal.trans (ht3.mono hal.size)
  have HB16 := Lib.hid (HB14.out.trans ((hz15).mono HB14.out.size))
  have HRm := Lib.hid (HRm.out.below (hz15))
  have HT12 := Lib.hid (HT12.out.below (hz15))
  have HTp := Lib.hid (HTp.out.below (hz15))
  clear hz15
  have HDu := Lib.hid (hdu)
  clear hal hin ht3 hg hdu
  clear HT12 HTp
  obtain ⟨bm, om, l0, u0, rfl, e0, g0, n0, _⟩ := HRm.out.at_ (k := 0) (by decide)
  cases e0
  obtain ⟨bm1, om1, l1, u1, e, e1, g1, n1, _⟩ := HRm.out.at_ (k := 1) (by decide)
  cases e
  cases e1
  obtain ⟨bm1, om1, l1, u2, e, e2, g2, n2, _⟩ := HRm.out.at_ (k := 2) (by decide)
  cases e
  cases e2
  obtain ⟨bm1, om1, l1, u3, e, e3, g3, n3, _⟩ := HRm.out.at_ (k := 3) (by decide)
  cases e
  cases e3
  obtain ⟨U0, k0, rfl, _, _⟩ := n0.form
  obtain ⟨U1, k1, rfl, _, _⟩ := n1.form
  obtain ⟨U2, k2, rfl, _, _⟩ := n2.form
  obtain ⟨U3, k3, rfl, _, _⟩ := n3.form
  simp only [List.length_cons, List.length_nil, Nat.add_zero, Nat.zero_add] at g0 g1 g2 g3 n0 n1 n2 n3
  have N0 := Lib.hid n0
  have N1 := Lib.hid n1
  clear n0 n1 n2 n3
  go_upto_region 4 with (fail)
  refine wp_region_noPanic ?_
  refine wp_region_ph [([0, 1, 2, 3, 4, 5, 6, 7, 8, 9, 10, 11, 12, 13, 14, 15, 16, 17, 18], [19, 20]), ([21, 22, 23, 24, 25, 26], [27, 28]), ([29, 30, 31, 32, 33, 34, 35, 36, 37, 38, 39, 40, 41, 42, 43, 44, 45, 46, 47, 48], [49, 50]), ([51, 52], [])] (fun _ => true) (fun w' => Below t3.heap.size t3 w') (by kernel_rfl) (by kernel_rfl) (fun _ _ _ _ _ h => h) ?_
  have hd : Below t3.heap.size t3 t3.drew := (Below.refl _ _).drew
  have Acc0 := Lib.hid hd
  obtain ⟨wd, hwd⟩ : ∃ W, W = t3.drew := ⟨_, rfl⟩
  rw [← hwd] at hd Acc0 ⊢
  clear hwd hd
  refine wpPh_cons Acc0.out (fun hne => ?_)
  have m0 := fun x : Meets (fun w' => Below t3.heap.size t3 w') => cell_below x.property g0
  have m1 := fun x : Meets (fun w' => Below t3.heap.size t3 w') => cell_below x.property g1
  have m2 := fun x : Meets (fun w' => Below t3.heap.size t3 w') => cell_below x.property g2
  have m3 := fun x : Meets (fun w' => Below t3.heap.size t3 w') => cell_below x.property g3
  simp only [pick, pickN, List.filterMap_cons, List.filterMap_nil, List.getElem?_cons_zero, List.getElem?_cons_succ, Option.map_some]
  repeat (change wpQuiet _ _ _ _ (_ :: _) _; go_big_quiet_step (fail))
  refine wpQuiet_nil ?_
  clear m0 m1 m2 m3 hne
  refine wpSeqK_step (fun K hK => ?_)
  go_simp
  have Aa1 := Lib.hid (Acc0.out.alloc Acc0.out.size (.cells #[.int .i64 1, .int .i64 3] 3))
  have hin := ints_blk (W := wd.alloc (.cells #[.int .i64 1, .int .i64 3] 3)) [1, 3] 2 rfl (by omega) (heap_alloc_new wd _)
  refine hK.out _ _ (fun _ => Aa1.out) ?_
  clear hK K
  refine wpSeqK_step (fun K hK => ?_)
  go_simp
  refine (ints_any _ _ [1, 3] [1, 3] _ (N0.out.below Aa1.out) hin ⟨by decide, by decide⟩).mono ?_
  rintro e wq1 ⟨rfl, hq1⟩
  rw [show decide (([1, 3] : List Int) = [1, 3]) = true from rfl]
  have Acc1 := Lib.hid (Aa1.out.trans (hq1.mono Aa1.out.size))
  refine hK.out _ _ (fun _ => Acc1.out) ?_
  clear hK K hq1 hin
  refine wpSeqK_nil ?_
  refine wpPh_cons Acc1.out (fun hne => ?_)
  have m0 := fun x : Meets (fun w' => Below t3.heap.size t3 w') => cell_below x.property g0
  have m1 := fun x : Meets (fun w' => Below t3.heap.size t3 w') => cell_below x.property g1
  have m2 := fun x : Meets (fun w' => Below t3.heap.size t3 w') => cell_below x.property g2
  have m3 := fun x : Meets (fun w' => Below t3.heap.size t3 w') => cell_below x.property g3
  simp only [pick, pickN, List.filterMap_cons, List.filterMap_nil, List.getElem?_cons_zero, List.getElem?_cons_succ, Option.map_some]
  repeat (change wpQuiet _ _ _ _ (_ :: _) _; go_big_quiet_step (fail))
  refine wpQuiet_nil ?_
  clear m0 m1 m2 m3 hne
  refine wpSeqK_step (fun K hK => ?_)
  go_simp
  have Aa2 := Lib.hid (Acc1.out.alloc Acc1.out.size (.cells #[.int .i64 0] 3))
  have hin := ints_blk (W := wq1.alloc (.cells #[.int .i64 0] 3)) [0] 1 rfl (by omega) (heap_alloc_new wq1 _)
  refine hK.out _ _ (fun _ => Aa2.out) ?_
  clear hK K
  refine wpSeqK_step (fun K hK => ?_)
  go_simp
  refine (ints_any _ _ [0] [0] _ (N1.out.below Aa2.out) hin ⟨by decide, by decide⟩).mono ?_
  rintro e wq2 ⟨rfl, hq2⟩
  rw [show decide (([0] : List Int) = [0]) = true from rfl]
  have Acc2 := Lib.hid (Aa2.out.trans (hq2.mono Aa2.out.size))
  refine hK.out _ _ (fun _ => Acc2.out) ?_
  clear hK K hq2 hin
  refine wpSeqK_nil ?_
  refine wpPh_cons Acc2.out (fun hne => ?_)
  have m0 := fun x : Meets (fun w' => Below t3.heap.size t3 w') => cell_below x.property g0
  have m1 := fun x : Meets (fun w' => Below t3.heap.size t3 w') => cell_below x.property g1
  have m2 := fun x : Meets (fun w' => Below t3.heap.size t3 w') => cell_below x.property g2
  have m3 := fun x : Meets (fun w' => Below t3.heap.size t3 w') => cell_below x.property g3
  simp only [pick, pickN, List.filterMap_cons, List.filterMap_nil, List.getElem?_cons_zero, List.getElem?_cons_succ, Option.map_some]
  repeat (change wpQuiet _ _ _ _ (_ :: _) _; go_big_quiet_step (fail))
  refine wpQuiet_nil ?_
  clear m0 m1 m2 m3 hne
  refine wpSeqK_step (fun K hK => ?_)
  go_simp
  have Aa3 := Lib.hid (Acc2.out.alloc Acc2.out.size (.cells #[.int .i64 0, .int .i64 0, .int .i64 0, .int .i64 3, .int .i64 0, .int .i64 0, .int .i64 0, .int .i64 0, .int .i64 0, .int .i64 0] 3))
  have hin := ints_blk (W := wq2.alloc (.cells #[.int .i64 0, .int .i64 0, .int .i64 0, .int .i64 3, .int .i64 0, .int .i64 0, .int .i64 0, .int .i64 0, .int .i64 0, .int .i64 0] 3)) [0, 0, 0, 3, 0, 0, 0, 0, 0, 0] 10 rfl (by omega) (heap_alloc_new wq2 _)
  refine hK.out _ _ (fun _ => Aa3.out) ?_
  clear hK K
  refine wpSeqK_step (fun K hK => ?_)
  go_simp
  refine (ints_any _ _ [0, 0, 0, 3, 0, 0, 0, 0, 0, 0] [0, 0, 0, 3, 0, 0, 0, 0, 0, 0] _ (HDu.out.below Aa3.out) hin ⟨by decide, by decide⟩).mono ?_
  rintro e wq3 ⟨rfl, hq3⟩
  rw [show decide (([0, 0, 0, 3, 0, 0, 0, 0, 0, 0] : List Int) = [0, 0, 0, 3, 0, 0, 0, 0, 0, 0]) = true from rfl]
  have Acc3 := Lib.hid (Aa3.out.trans (hq3.mono Aa3.out.size))
  refine hK.out _ _ (fun _ => Acc3.out) ?_
  clear hK K hq3 hin
  refine wpSeqK_nil ?_
  refine wpPh_cons Acc3.out (fun hne => ?_)
  have m0 := fun x : Meets (fun w' => Below t3.heap.size t3 w') => cell_below x.property g0
  have m1 := fun x : Meets (fun w' => Below t3.heap.size t3 w') => cell_below x.property g1
  have m2 := fun x : Meets (fun w' => Below t3.heap.size t3 w') => cell_below x.property g2
  have m3 := fun x : Meets (fun w' => Below t3.heap.size t3 w') => cell_below x.property g3
  simp only [pick, pickN, List.filterMap_cons, List.filterMap_nil, List.getElem?_cons_zero, List.getElem?_cons_succ, Option.map_some]
  repeat (change wpQuiet _ _ _ _ (_ :: _) _; go_big_quiet_step (fail))
  refine wpQuiet_nil ?_
  clear m0 m1 m2 m3 hne
  refine wpSeqK_nil ?_
  refine wpPh_nil ?_
  refine NoPanic.normal ?_
  clear g0 g1 g2 g3 N0 N1
  clear HRm HDu
  have HB17 := Lib.hid (HB16.out.trans ((Acc3.out).mono HB16.out.size))
  go_wp2_with fail
  refine (city_any _).mono ?_
  rintro e c18 ⟨a18, b18, d18, rfl, hT18, hc18⟩
  have HB19 := Lib.hid (HB17.out.trans ((hc18).mono HB17.out.size))
  have HT18 := Lib.hid (hT18)
  clear hc18 hT18
  go_wp2_with fail
  refine (rode_any _).mono ?_
  rintro e r20 ⟨rfl, rfl⟩
  have hal20 : Below c18.heap.size c18 ((c18.alloc (.cells #[.int .i64 0, .int .i64 480, .int .i64 0, .int .i64 0, .int .i64 0, .int .i64 530, .int .i64 0, .int .i64 1, .int .i64 0, .int .i64 560, .int .i64 1, .int .i64 1, .int .i64 0, .int .i64 700, .int .i64 0, .int .i64 1] 70)).alloc (.cells #[.int .u8 0, .int .i64 0, .int .i64 1, .int .i64 0, .int .i64 480] 89)) := two_below _ _ _
  have hrd20 := rode_at (W := (c18.alloc (.cells #[.int .i64 0, .int .i64 480, .int .i64 0, .int .i64 0, .int .i64 0, .int .i64 530, .int .i64 0, .int .i64 1, .int .i64 0, .int .i64 560, .int .i64 1, .int .i64 1, .int .i64 0, .int .i64 700, .int .i64 0, .int .i64 1] 70)).alloc (.cells #[.int .u8 0, .int .i64 0, .int .i64 1, .int .i64 0, .int .i64 480] 89)) (k := 2) (heap_in (heap_alloc_new c18 (.cells #[.int .i64 0, .int .i64 480, .int .i64 0, .int .i64 0, .int .i64 0, .int .i64 530, .int .i64 0, .int .i64 1, .int .i64 0, .int .i64 560, .int .i64 1, .int .i64 1, .int .i64 0, .int .i64 700, .int .i64 0, .int .i64 1] 70))) (by omega)
  have htk20 := tks_blk (W := (c18.alloc (.cells #[.int .i64 0, .int .i64 480, .int .i64 0, .int .i64 0, .int .i64 0, .int .i64 530, .int .i64 0, .int .i64 1, .int .i64 0, .int .i64 560, .int .i64 1, .int .i64 1, .int .i64 0, .int .i64 700, .int .i64 0, .int .i64 1] 70)).alloc (.cells #[.int .u8 0, .int .i64 0, .int .i64 1, .int .i64 0, .int .i64 480] 89)) [⟨0, 0, 1, 0, 480⟩] 1 rfl (by omega) (heap_alloc_new (c18.alloc (.cells #[.int .i64 0, .int .i64 480, .int .i64 0, .int .i64 0, .int .i64 0, .int .i64 530, .int .i64 0, .int .i64 1, .int .i64 0, .int .i64 560, .int .i64 1, .int .i64 1, .int .i64 0, .int .i64 700, .int .i64 0, .int .i64 1] 70)) (.cells #[.int .u8 0, .int .i64 0, .int .i64 1, .int .i64 0, .int .i64 480] 89))
  rw [show (c18.alloc (.cells #[.int .i64 0, .int .i64 480, .int .i64 0, .int .i64 0, .int .i64 0, .int .i64 530, .int .i64 0, .int .i64 1, .int .i64 0, .int .i64 560, .int .i64 1, .int .i64 1, .int .i64 0, .int .i64 700, .int .i64 0, .int .i64 1] 70)).heap.size = c18.heap.size + 1 by simp] at htk20
  go_wp2_with fail
  refine (ProveTickets_any cityT a18 b18 d18 _ _ (rodeL.take 2) [⟨0, 0, 1, 0, 480⟩] 3 _ (HT18.out.below hal20) hrd20 htk20 (by simp) (by decide)).mono ?_
  rintro e p20 ⟨rfl, hp20⟩
  rw [val_p1]
  have hz21 := hal20.trans (hp20.mono hal20.size)
  have HB22 := Lib.hid (HB19.out.trans ((hz21).mono HB19.out.size))
  have HT18 := Lib.hid (HT18.out.below (hz21))
  clear hz21
  clear hal20 hrd20 htk20 hp20
  clear HT18
  go_wp2_with fail
  refine (city_any _).mono ?_
  rintro e c23 ⟨a23, b23, d23, rfl, hT23, hc23⟩
  have HB24 := Lib.hid (HB22.out.trans ((hc23).mono HB22.out.size))
  have HT23 := Lib.hid (hT23)
  clear hc23 hT23
  go_wp2_with fail
  refine (rode_any _).mono ?_
  rintro e r25 ⟨rfl, rfl⟩
  have hal25 : Below c23.heap.size c23 ((c23.alloc (.cells #[.int .i64 0, .int .i64 480, .int .i64 0, .int .i64 0, .int .i64 0, .int .i64 530, .int .i64 0, .int .i64 1, .int .i64 0, .int .i64 560, .int .i64 1, .int .i64 1, .int .i64 0, .int .i64 700, .int .i64 0, .int .i64 1] 70)).alloc (.cells #[.int .u8 0, .int .i64 0, .int .i64 1, .int .i64 0, .int .i64 480] 89)) := two_below _ _ _
  have hrd25 := rode_at (W := (c23.alloc (.cells #[.int .i64 0, .int .i64 480, .int .i64 0, .int .i64 0, .int .i64 0, .int .i64 530, .int .i64 0, .int .i64 1, .int .i64 0, .int .i64 560, .int .i64 1, .int .i64 1, .int .i64 0, .int .i64 700, .int .i64 0, .int .i64 1] 70)).alloc (.cells #[.int .u8 0, .int .i64 0, .int .i64 1, .int .i64 0, .int .i64 480] 89)) (k := 2) (heap_in (heap_alloc_new c23 (.cells #[.int .i64 0, .int .i64 480, .int .i64 0, .int .i64 0, .int .i64 0, .int .i64 530, .int .i64 0, .int .i64 1, .int .i64 0, .int .i64 560, .int .i64 1, .int .i64 1, .int .i64 0, .int .i64 700, .int .i64 0, .int .i64 1] 70))) (by omega)
  have htk25 := tks_blk (W := (c23.alloc (.cells #[.int .i64 0, .int .i64 480, .int .i64 0, .int .i64 0, .int .i64 0, .int .i64 530, .int .i64 0, .int .i64 1, .int .i64 0, .int .i64 560, .int .i64 1, .int .i64 1, .int .i64 0, .int .i64 700, .int .i64 0, .int .i64 1] 70)).alloc (.cells #[.int .u8 0, .int .i64 0, .int .i64 1, .int .i64 0, .int .i64 480] 89)) [⟨0, 0, 1, 0, 480⟩] 1 rfl (by omega) (heap_alloc_new (c23.alloc (.cells #[.int .i64 0, .int .i64 480, .int .i64 0, .int .i64 0, .int .i64 0, .int .i64 530, .int .i64 0, .int .i64 1, .int .i64 0, .int .i64 560, .int .i64 1, .int .i64 1, .int .i64 0, .int .i64 700, .int .i64 0, .int .i64 1] 70)) (.cells #[.int .u8 0, .int .i64 0, .int .i64 1, .int .i64 0, .int .i64 480] 89))
  rw [show (c23.alloc (.cells #[.int .i64 0, .int .i64 480, .int .i64 0, .int .i64 0, .int .i64 0, .int .i64 530, .int .i64 0, .int .i64 1, .int .i64 0, .int .i64 560, .int .i64 1, .int .i64 1, .int .i64 0, .int .i64 700, .int .i64 0, .int .i64 1] 70)).heap.size = c23.heap.size + 1 by simp] at htk25
  go_wp2_with fail
  refine (ProveTickets_any cityT a23 b23 d23 _ _ (rodeL.take 2) [⟨0, 0, 1, 0, 480⟩] 2 _ (HT23.out.below hal25) hrd25 htk25 (by simp) (by decide)).mono ?_
  rintro e p25 ⟨rfl, hp25⟩
  rw [val_p2]
  have hz26 := hal25.trans (hp25.mono hal25.size)
  have HB27 := Lib.hid (HB24.out.trans ((hz26).mono HB24.out.size))
  have HT23 := Lib.hid (HT23.out.below (hz26))
  clear hz26
  clear hal25 hrd25 htk25 hp25
  clear HT23
  go_wp2_with fail
  refine (city_any _).mono ?_
  rintro e c28 ⟨a28, b28, d28, rfl, hT28, hc28⟩
  have HB29 := Lib.hid (HB27.out.trans ((hc28).mono HB27.out.size))
  have HT28 := Lib.hid (hT28)
  clear hc28 hT28
  go_wp2_with fail
  refine (rode_any _).mono ?_
  rintro e r30 ⟨rfl, rfl⟩
  have hal30 : Below c28.heap.size c28 ((c28.alloc (.cells #[.int .i64 0, .int .i64 480, .int .i64 0, .int .i64 0, .int .i64 0, .int .i64 530, .int .i64 0, .int .i64 1, .int .i64 0, .int .i64 560, .int .i64 1, .int .i64 1, .int .i64 0, .int .i64 700, .int .i64 0, .int .i64 1] 70)).alloc (.cells #[.int .u8 0, .int .i64 0, .int .i64 1, .int .i64 0, .int .i64 479] 89)) := two_below _ _ _
  have hrd30 := rode_at (W := (c28.alloc (.cells #[.int .i64 0, .int .i64 480, .int .i64 0, .int .i64 0, .int .i64 0, .int .i64 530, .int .i64 0, .int .i64 1, .int .i64 0, .int .i64 560, .int .i64 1, .int .i64 1, .int .i64 0, .int .i64 700, .int .i64 0, .int .i64 1] 70)).alloc (.cells #[.int .u8 0, .int .i64 0, .int .i64 1, .int .i64 0, .int .i64 479] 89)) (k := 2) (heap_in (heap_alloc_new c28 (.cells #[.int .i64 0, .int .i64 480, .int .i64 0, .int .i64 0, .int .i64 0, .int .i64 530, .int .i64 0, .int .i64 1, .int .i64 0, .int .i64 560, .int .i64 1, .int .i64 1, .int .i64 0, .int .i64 700, .int .i64 0, .int .i64 1] 70))) (by omega)
  have htk30 := tks_blk (W := (c28.alloc (.cells #[.int .i64 0, .int .i64 480, .int .i64 0, .int .i64 0, .int .i64 0, .int .i64 530, .int .i64 0, .int .i64 1, .int .i64 0, .int .i64 560, .int .i64 1, .int .i64 1, .int .i64 0, .int .i64 700, .int .i64 0, .int .i64 1] 70)).alloc (.cells #[.int .u8 0, .int .i64 0, .int .i64 1, .int .i64 0, .int .i64 479] 89)) [⟨0, 0, 1, 0, 479⟩] 1 rfl (by omega) (heap_alloc_new (c28.alloc (.cells #[.int .i64 0, .int .i64 480, .int .i64 0, .int .i64 0, .int .i64 0, .int .i64 530, .int .i64 0, .int .i64 1, .int .i64 0, .int .i64 560, .int .i64 1, .int .i64 1, .int .i64 0, .int .i64 700, .int .i64 0, .int .i64 1] 70)) (.cells #[.int .u8 0, .int .i64 0, .int .i64 1, .int .i64 0, .int .i64 479] 89))
  rw [show (c28.alloc (.cells #[.int .i64 0, .int .i64 480, .int .i64 0, .int .i64 0, .int .i64 0, .int .i64 530, .int .i64 0, .int .i64 1, .int .i64 0, .int .i64 560, .int .i64 1, .int .i64 1, .int .i64 0, .int .i64 700, .int .i64 0, .int .i64 1] 70)).heap.size = c28.heap.size + 1 by simp] at htk30
  go_wp2_with fail
  refine (ProveTickets_any cityT a28 b28 d28 _ _ (rodeL.take 2) [⟨0, 0, 1, 0, 479⟩] 3 _ (HT28.out.below hal30) hrd30 htk30 (by simp) (by decide)).mono ?_
  rintro e p30 ⟨rfl, hp30⟩
  rw [val_p3]
  have hz31 := hal30.trans (hp30.mono hal30.size)
  have HB32 := Lib.hid (HB29.out.trans ((hz31).mono HB29.out.size))
  have HT28 := Lib.hid (HT28.out.below (hz31))
  clear hz31
  clear hal30 hrd30 htk30 hp30
  clear HT28
  go_wp2_with fail
  refine (city_any _).mono ?_
  rintro e c33 ⟨a33, b33, d33, rfl, hT33, hc33⟩
  have HB34 := Lib.hid (HB32.out.trans ((hc33).mono HB32.out.size))
  have HT33 := Lib.hid (hT33)
  clear hc33 hT33
  go_wp2_with fail
  refine (ProveTickets_any cityT a33 b33 d33 _ _ [] [] 0 _ HT33.out (RdsAt.nil _ 0 (by simp [maxLen]) none) (TksAt.nil _ 0 (by simp [maxLen]) none) (by simp) (by decide)).mono ?_
  rintro e p35 ⟨rfl, hp35⟩
  rw [val_p4]
  have HB36 := Lib.hid (HB34.out.trans ((hp35).mono HB34.out.size))
  have HT33 := Lib.hid (HT33.out.below (hp35))
  clear hp35
  clear HT33
  go_wp2_with fail
  refine (city_any _).mono ?_
  rintro e c37 ⟨a37, b37, d37, rfl, hT37, hc37⟩
  have HB38 := Lib.hid (HB36.out.trans ((hc37).mono HB36.out.size))
  have HT37 := Lib.hid (hT37)
  clear hc37 hT37
  have hal := ((Below.refl c37.heap.size c37).alloc (Nat.le_refl _) (.cells #[.int .i64 0, .int .i64 0, .int .i64 0, .int .i64 3] 70))
  have hrd := rds_blk (W := c37.alloc (.cells #[.int .i64 0, .int .i64 0, .int .i64 0, .int .i64 3] 70)) [⟨0, 0, 0, 3⟩] 1 rfl (by omega) (heap_alloc_new c37 _)
  go_wp2_with fail
  refine (Tickets_any cityT a37 b37 d37 _ [⟨0, 0, 0, 3⟩] _ (HT37.out.below hal) hrd (by decide)).mono ?_
  rintro e t8 ⟨ht8, hbad, _⟩
  obtain rfl := hbad (by rw [val_e]; decide)
  rw [val_e]
  have hz39 := hal.trans (ht8.mono hal.size)
  have HB40 := Lib.hid (HB38.out.trans ((hz39).mono HB38.out.size))
  have HT37 := Lib.hid (HT37.out.below (hz39))
  clear hz39
  clear hal hrd ht8 hbad
  clear HT37
  go_wp2
  go_loopw [8, 9] (fun so si wr => ∃ (k : Nat) (A : Option Addr) (q : Nat), k ≤ 13 ∧ so = .slice A k q ∧ si = .int .i64 (k : Int) ∧ Below t8.heap.size t8 wr ∧ wr.ownsRow t8.heap.size 70 4 (.slice A k q) k ((manyL k).flatMap rdC)) (fun so si wr => 13 - (intOf si).toNat)
  case atStart => exact ⟨0, none, 0, by omega, rfl, rfl, Below.refl _ _, World.ownsRow_nil _ _ _ _⟩
  case round =>
    obtain ⟨k, A, q, hk, rfl, rfl, hbr, hor⟩ := hrel
    have Hbr := Lib.hid hbr
    have Hor := Lib.hid hor
    clear hbr hor
    by_cases hlt : k < 13
    · have ik : (k : Int) < 13 := by omega
      go_wp2_with (at_builtin; refine wpList_append_src _ rfl (.tmp 143) (.tmp 146) 37 rfl t8.heap.size 70 i0 _ 4 32 Try.underlying37 hi0 hz0 hz1 hz2 rfl (by omega) _ k _ rfl (Hor.out.alloc _) (some ⟨wr.heap.size, 0, none⟩) 1 1 (rdC ⟨0, (k : Int), 0, 0⟩) rfl (src_new wr (rdC ⟨0, (k : Int), 0, 0⟩) 70 1 4 rfl) (by simp [rdC, Value.oneCell']) (by simp [maxLen]; omega) (by omega) (Nat.le_trans Hbr.out.size (by simp)) ?_; intro v6 w6 hown6 hg6 hat6; obtain ⟨A6, c6, rfl⟩ := own_form hown6)
      have Hb6 := Lib.hid (below_grown (Hbr.out.alloc Hbr.out.size _) hg6 (Nat.le_trans Hbr.out.size (by simp)) (Hor.out.alloc _) (Nat.le_refl _))
      have Ho6 := Lib.hid hown6
      clear hown6 hg6 hat6
      go_wp2
      go_roundw
      case rel =>
        refine ⟨k + 1, A6, c6, by omega, rfl, by go_num, Hb6.out, ?_⟩
        rw [manyL_succ, List.flatMap_append]
        have := Ho6.out
        simpa using this
      case measure => simp [intOf]; omega
    · have ik : ¬ (k : Int) < 13 := by omega
      have hke : k = 13 := by omega
      subst hke
      have hmr := rds_own Hor.out
      have Hmr0 := Lib.hid hmr
      clear hmr Hor
      have HB41 := Lib.hid (HB40.out.trans ((Hbr.out).mono HB40.out.size))
      have HMr := Lib.hid (Hmr0.out)
      clear Hmr0
      go_wp2_with fail
      refine (city_any _).mono ?_
      rintro e c42 ⟨a42, b42, d42, rfl, hT42, hc42⟩
      have HB43 := Lib.hid (HB41.out.trans ((hc42).mono HB41.out.size))
      have HMr := Lib.hid (HMr.out.below (hc42))
      have HT42 := Lib.hid (hT42)
      clear hc42 hT42
      go_wp2_with fail
      refine (Tickets_any cityT a42 b42 d42 _ (manyL 13) _ HT42.out HMr.out (by rw [manyL_len]; decide)).mono ?_
      rintro e t14 ⟨ht14, hbad, _⟩
      obtain rfl := hbad (by rw [val_f]; decide)
      rw [val_f]
      have HB44 := Lib.hid (HB43.out.trans ((ht14).mono HB43.out.size))
      have HMr := Lib.hid (HMr.out.below (ht14))
      have HT42 := Lib.hid (HT42.out.below (ht14))
      clear ht14 hbad
      clear HT42
      go_upto_region 15 with (fail)
      have mk := make_rds
      go_cut [7] from 155 to 161 (fun y wx => y = .int .i64 0 ∧ Below t14.heap.size t14 wx)
      case first =>
        refine wp_region_noPanic ?_
        refine wp_region_pickA [] 8 (fun _ => true) (fun w' => Below t14.heap.size t14 w') (by kernel_rfl) (by kernel_rfl) (fun _ _ _ _ _ h => h) (Below.refl _ _).drew (fun hne => ?_)
        clear hne
        simp only [pick, List.filterMap_nil]
        refine wpQuiet_nil ?_
        refine wpAnyF_name (fun W => Below t14.heap.size t14 W) (Below.refl _ _).drew (fun V0 hV0 => ?_)
        have fin : ∀ (W : World) (a b d : Value) (B : Nat), TarAt W a b d cityT → W.heap[B]? = some (.cells (noRd.flatMap rdC).toArray 70 (0, 0)) → True := fun _ _ _ _ _ _ _ => trivial
        clear fin
        refine wpAnyF_two (i := 0) (j := 1) (by kernel_rfl) rfl rfl (fun K hK => ?_) (fun K hK => ?_)
        · go_simp
          refine (city_any _).mono ?_
          rintro e V1 ⟨a, b, d, rfl, hT, hc⟩
          have h1 := hV0.trans (hc.mono hV0.size)
          refine hK.out _ _ (fun _ => h1) ?_
          clear hK K
          refine wpAnyF_one (i := 1) (by kernel_rfl) rfl (fun K hK => ?_)
          go_simp
          try simp only [mk, Result.andThen_ok]
          have h2 := h1.alloc h1.size (.cells (noRd.flatMap rdC).toArray 70)
          have hT2 := hT.below ((Below.refl V1.heap.size V1).alloc (Nat.le_refl _) (.cells (noRd.flatMap rdC).toArray 70))
          have hl := heap_alloc_new V1 (.cells (noRd.flatMap rdC).toArray 70)
          refine hK.out _ _ (fun _ => h2) ?_
          clear hK K mk
          generalize V1.alloc (.cells (noRd.flatMap rdC).toArray 70) = V2 at *
          generalize V1.heap.size = B at *
          have hrd := rds_blk noRd 13 rfl (by omega) hl
          refine wpAnyF_one (i := 2) (by kernel_rfl) rfl (fun K hK => ?_)
          go_simp
          refine (Tickets_any cityT a b d _ noRd _ hT2 hrd (by decide)).mono ?_
          rintro e V3 ⟨h3, _, hg⟩
          obtain ⟨A3, k3, rfl, _⟩ := hg val_g
          have h4 := h2.trans (h3.mono h2.size)
          refine hK.out _ _ (fun _ => h4) ?_
          clear hK K
          refine wpAnyF_pick (by kernel_rfl) (fun _ _ _ _ _ h => h) 0 [3, 4, 5, 6, 7] _ _ _ (by kernel_rfl) h4 ?_
          simp only [pick, List.filterMap_cons, List.filterMap_nil, List.getElem?_cons_zero, List.getElem?_cons_succ]
          have hne2 : Nonempty (Meets (fun w' => Below t14.heap.size t14 w')) := ⟨⟨_, h4⟩⟩
          repeat (change wpQuiet _ _ _ _ (_ :: _) _; go_big_quiet_step (fail))
          refine wpQuiet_nil ?_
          refine wpAnyF_done (by kernel_rfl) ?_ _
          refine NoPanic.normal ?_
          go_wp2_with fail
          go_meet
          case rel => exact ⟨rfl, h4⟩
        · go_simp
          try simp only [mk, Result.andThen_ok]
          have h1 := hV0.alloc hV0.size (.cells (noRd.flatMap rdC).toArray 70)
          have hl1 := heap_alloc_new V0 (.cells (noRd.flatMap rdC).toArray 70)
          refine hK.out _ _ (fun _ => h1) ?_
          clear hK K mk
          generalize V0.alloc (.cells (noRd.flatMap rdC).toArray 70) = V1 at *
          generalize V0.heap.size = B at *
          refine wpAnyF_one (i := 0) (by kernel_rfl) rfl (fun K hK => ?_)
          go_simp
          refine (city_any _).mono ?_
          rintro e V2 ⟨a, b, d, rfl, hT2, hc⟩
          have h2 := h1.trans (hc.mono h1.size)
          have hl := (hc.block B (Array.getElem?_eq_some_iff.1 hl1).1).trans hl1
          refine hK.out _ _ (fun _ => h2) ?_
          clear hK K
          have hrd := rds_blk noRd 13 rfl (by omega) hl
          refine wpAnyF_one (i := 2) (by kernel_rfl) rfl (fun K hK => ?_)
          go_simp
          refine (Tickets_any cityT a b d _ noRd _ hT2 hrd (by decide)).mono ?_
          rintro e V3 ⟨h3, _, hg⟩
          obtain ⟨A3, k3, rfl, _⟩ := hg val_g
          have h4 := h2.trans (h3.mono h2.size)
          refine hK.out _ _ (fun _ => h4) ?_
          clear hK K
          refine wpAnyF_pick (by kernel_rfl) (fun _ _ _ _ _ h => h) 0 [3, 4, 5, 6, 7] _ _ _ (by kernel_rfl) h4 ?_
          simp only [pick, List.filterMap_cons, List.filterMap_nil, List.getElem?_cons_zero, List.getElem?_cons_succ]
          have hne2 : Nonempty (Meets (fun w' => Below t14.heap.size t14 w')) := ⟨⟨_, h4⟩⟩
          repeat (change wpQuiet _ _ _ _ (_ :: _) _; go_big_quiet_step (fail))
          refine wpQuiet_nil ?_
          refine wpAnyF_done (by kernel_rfl) ?_ _
          refine NoPanic.normal ?_
          go_wp2_with fail
          go_meet
          case rel => exact ⟨rfl, h4⟩
      case rest =>
        obtain ⟨rfl, hbc⟩ := hcut
        rename World => wc15
        clear mk
        have HB45 := Lib.hid (HB44.out.trans ((hbc).mono HB44.out.size))
        have HMr := Lib.hid (HMr.out.below (hbc))
        clear hbc
        go_upto_region 16 with (fail)
        have mk := make_tps
        go_cut [10, 11] from 162 to 167 (fun x y wx => x = .slice none 0 0 ∧ y = .int .i64 3 ∧ Below wc15.heap.size wc15 wx)
        case first =>
          refine wp_region_noPanic ?_
          refine wp_region_pickA [] 8 (fun _ => true) (fun w' => Below wc15.heap.size wc15 w') (by kernel_rfl) (by kernel_rfl) (fun _ _ _ _ _ h => h) (Below.refl _ _).drew (fun hne => ?_)
          clear hne
          simp only [pick, List.filterMap_nil]
          refine wpQuiet_nil ?_
          refine wpAnyF_name (fun W => Below wc15.heap.size wc15 W) (Below.refl _ _).drew (fun V0 hV0 => ?_)
          have fin : ∀ (W : World) (a b d : Value) (B : Nat), TarAt W a b d cityT → W.heap[B]? = some (.cells (noTp.flatMap tpC).toArray 91 (0, 0)) → True := fun _ _ _ _ _ _ _ => trivial
          clear fin
          refine wpAnyF_two (i := 0) (j := 1) (by kernel_rfl) rfl rfl (fun K hK => ?_) (fun K hK => ?_)
          · go_simp
            refine (city_any _).mono ?_
            rintro e V1 ⟨a, b, d, rfl, hT, hc⟩
            have h1 := hV0.trans (hc.mono hV0.size)
            refine hK.out _ _ (fun _ => h1) ?_
            clear hK K
            refine wpAnyF_one (i := 1) (by kernel_rfl) rfl (fun K hK => ?_)
            go_simp
            try simp only [mk, Result.andThen_ok]
            have h2 := h1.alloc h1.size (.cells (noTp.flatMap tpC).toArray 91)
            have hT2 := hT.below ((Below.refl V1.heap.size V1).alloc (Nat.le_refl _) (.cells (noTp.flatMap tpC).toArray 91))
            have hl := heap_alloc_new V1 (.cells (noTp.flatMap tpC).toArray 91)
            refine hK.out _ _ (fun _ => h2) ?_
            clear hK K mk
            generalize V1.alloc (.cells (noTp.flatMap tpC).toArray 91) = V2 at *
            generalize V1.heap.size = B at *
            have htp := tps_blk noTp 41 rfl (by omega) hl
            refine wpAnyF_one (i := 2) (by kernel_rfl) rfl (fun K hK => ?_)
            go_simp
            refine (Missing_any cityT a b d _ _ noTp [] _ hT2 htp (nums_nil _) (by decide)).mono ?_
            rintro e V3 ⟨h3, hbad, _⟩
            obtain rfl := hbad (by rw [val_h]; decide)
            rw [val_h]
            have h4 := h2.trans (h3.mono h2.size)
            refine hK.out _ _ (fun _ => h4) ?_
            clear hK K
            refine wpAnyF_pick (by kernel_rfl) (fun _ _ _ _ _ h => h) 0 [3, 4, 5, 6, 7] _ _ _ (by kernel_rfl) h4 ?_
            simp only [pick, List.filterMap_cons, List.filterMap_nil, List.getElem?_cons_zero, List.getElem?_cons_succ]
            have hne2 : Nonempty (Meets (fun w' => Below wc15.heap.size wc15 w')) := ⟨⟨_, h4⟩⟩
            repeat (change wpQuiet _ _ _ _ (_ :: _) _; go_big_quiet_step (fail))
            refine wpQuiet_nil ?_
            refine wpAnyF_done (by kernel_rfl) ?_ _
            refine NoPanic.normal ?_
            go_wp2_with fail
            go_meet
            case rel => exact ⟨rfl, rfl, h4⟩
          · go_simp
            try simp only [mk, Result.andThen_ok]
            have h1 := hV0.alloc hV0.size (.cells (noTp.flatMap tpC).toArray 91)
            have hl1 := heap_alloc_new V0 (.cells (noTp.flatMap tpC).toArray 91)
            refine hK.out _ _ (fun _ => h1) ?_
            clear hK K mk
            generalize V0.alloc (.cells (noTp.flatMap tpC).toArray 91) = V1 at *
            generalize V0.heap.size = B at *
            refine wpAnyF_one (i := 0) (by kernel_rfl) rfl (fun K hK => ?_)
            go_simp
            refine (city_any _).mono ?_
            rintro e V2 ⟨a, b, d, rfl, hT2, hc⟩
            have h2 := h1.trans (hc.mono h1.size)
            have hl := (hc.block B (Array.getElem?_eq_some_iff.1 hl1).1).trans hl1
            refine hK.out _ _ (fun _ => h2) ?_
            clear hK K
            have htp := tps_blk noTp 41 rfl (by omega) hl
            refine wpAnyF_one (i := 2) (by kernel_rfl) rfl (fun K hK => ?_)
            go_simp
            refine (Missing_any cityT a b d _ _ noTp [] _ hT2 htp (nums_nil _) (by decide)).mono ?_
            rintro e V3 ⟨h3, hbad, _⟩
            obtain rfl := hbad (by rw [val_h]; decide)
            rw [val_h]
            have h4 := h2.trans (h3.mono h2.size)
            refine hK.out _ _ (fun _ => h4) ?_
            clear hK K
            refine wpAnyF_pick (by kernel_rfl) (fun _ _ _ _ _ h => h) 0 [3, 4, 5, 6, 7] _ _ _ (by kernel_rfl) h4 ?_
            simp only [pick, List.filterMap_cons, List.filterMap_nil, List.getElem?_cons_zero, List.getElem?_cons_succ]
            have hne2 : Nonempty (Meets (fun w' => Below wc15.heap.size wc15 w')) := ⟨⟨_, h4⟩⟩
            repeat (change wpQuiet _ _ _ _ (_ :: _) _; go_big_quiet_step (fail))
            refine wpQuiet_nil ?_
            refine wpAnyF_done (by kernel_rfl) ?_ _
            refine NoPanic.normal ?_
            go_wp2_with fail
            go_meet
            case rel => exact ⟨rfl, rfl, h4⟩
        case rest =>
          obtain ⟨rfl, rfl, hbc⟩ := hcut
          rename World => wc16
          clear mk
          have HB46 := Lib.hid (HB45.out.trans ((hbc).mono HB45.out.size))
          have HMr := Lib.hid (HMr.out.below (hbc))
          clear hbc
          go_wp2_with fail
          refine (city_any _).mono ?_
          rintro e c47 ⟨a47, b47, d47, rfl, hT47, hc47⟩
          have HB48 := Lib.hid (HB46.out.trans ((hc47).mono HB46.out.size))
          have HMr := Lib.hid (HMr.out.below (hc47))
          have HT47 := Lib.hid (hT47)
          clear hc47 hT47
          go_wp2_with fail
          refine (tapped_any _).mono ?_
          rintro e x49 ⟨X49, rfl, hx49, hb49, _⟩
          have HB50 := Lib.hid (HB48.out.trans ((hb49).mono HB48.out.size))
          have HMr := Lib.hid (HMr.out.below (hb49))
          have HT47 := Lib.hid (HT47.out.below (hb49))
          have HX49 := Lib.hid (hx49)
          clear hb49 hx49
          have hal51 := ((Below.refl x49.heap.size x49).alloc (Nat.le_refl _) (.cells #[.int .i64 4, .int .i64 1, .int .i64 0] 3))
          have hin51 := ints_blk (W := x49.alloc (.cells #[.int .i64 4, .int .i64 1, .int .i64 0] 3)) [4, 1, 0] 3 rfl (by omega) (heap_alloc_new x49 _)
          go_wp2_with fail
          refine (Missing_any cityT a47 b47 d47 _ _ tappedL [4, 1, 0] _ (HT47.out.below hal51) (HX49.out.below hal51) hin51 (by decide)).mono ?_
          rintro e m51 ⟨hm51, hbad51, hgood51⟩
          obtain rfl := hbad51 (by rw [val_i]; decide)
          rw [val_i]
          have hz52 := hal51.trans (hm51.mono hal51.size)
          have HB53 := Lib.hid (HB50.out.trans ((hz52).mono HB50.out.size))
          have HMr := Lib.hid (HMr.out.below (hz52))
          have HT47 := Lib.hid (HT47.out.below (hz52))
          have HX49 := Lib.hid (HX49.out.below (hz52))
          clear hz52
          clear hal51 hin51 hm51 hbad51 hgood51
          clear HT47 HX49
          go_wp2_with fail
          refine (city_any _).mono ?_
          rintro e c54 ⟨a54, b54, d54, rfl, hT54, hc54⟩
          have HB55 := Lib.hid (HB53.out.trans ((hc54).mono HB53.out.size))
          have HMr := Lib.hid (HMr.out.below (hc54))
          have HT54 := Lib.hid (hT54)
          clear hc54 hT54
          go_wp2_with fail
          refine (tapped_any _).mono ?_
          rintro e x56 ⟨X56, rfl, hx56, hb56, _⟩
          have HB57 := Lib.hid (HB55.out.trans ((hb56).mono HB55.out.size))
          have HMr := Lib.hid (HMr.out.below (hb56))
          have HT54 := Lib.hid (HT54.out.below (hb56))
          have HX56 := Lib.hid (hx56)
          clear hb56 hx56
          have hal58 := ((Below.refl x56.heap.size x56).alloc (Nat.le_refl _) (.cells #[.int .i64 2, .int .i64 1, .int .i64 0, .int .i64 0] 3))
          have hin58 := ints_blk (W := x56.alloc (.cells #[.int .i64 2, .int .i64 1, .int .i64 0, .int .i64 0] 3)) [2, 1, 0, 0] 4 rfl (by omega) (heap_alloc_new x56 _)
          go_wp2_with fail
          refine (Missing_any cityT a54 b54 d54 _ _ tappedL [2, 1, 0, 0] _ (HT54.out.below hal58) (HX56.out.below hal58) hin58 (by decide)).mono ?_
          rintro e m58 ⟨hm58, hbad58, hgood58⟩
          obtain rfl := hbad58 (by rw [val_j]; decide)
          rw [val_j]
          have hz59 := hal58.trans (hm58.mono hal58.size)
          have HB60 := Lib.hid (HB57.out.trans ((hz59).mono HB57.out.size))
          have HMr := Lib.hid (HMr.out.below (hz59))
          have HT54 := Lib.hid (HT54.out.below (hz59))
          have HX56 := Lib.hid (HX56.out.below (hz59))
          clear hz59
          clear hal58 hin58 hm58 hbad58 hgood58
          clear HT54 HX56
          go_wp2_with fail
          refine (city_any _).mono ?_
          rintro e c61 ⟨a61, b61, d61, rfl, hT61, hc61⟩
          have HB62 := Lib.hid (HB60.out.trans ((hc61).mono HB60.out.size))
          have HMr := Lib.hid (HMr.out.below (hc61))
          have HT61 := Lib.hid (hT61)
          clear hc61 hT61
          go_wp2_with fail
          refine (tapped_blk _).mono ?_
          rintro e y1 ⟨Y1, rfl, hy1, hby1, hYs1⟩
          go_wp2_with fail
          refine (rode_any _).mono ?_
          rintro e yr ⟨rfl, rfl⟩
          have hbr1 : Below c61.heap.size c61 (y1.alloc (.cells #[.int .i64 0, .int .i64 480, .int .i64 0, .int .i64 0, .int .i64 0, .int .i64 530, .int .i64 0, .int .i64 1, .int .i64 0, .int .i64 560, .int .i64 1, .int .i64 1, .int .i64 0, .int .i64 700, .int .i64 0, .int .i64 1] 70)) := hby1.alloc hby1.size _
          have hyr := heap_in (o := (.cells #[.int .i64 0, .int .i64 480, .int .i64 0, .int .i64 0, .int .i64 0, .int .i64 530, .int .i64 0, .int .i64 1, .int .i64 0, .int .i64 560, .int .i64 1, .int .i64 1, .int .i64 0, .int .i64 700, .int .i64 0, .int .i64 1] 70)) hy1
          have hrc := heap_alloc_new y1 (.cells #[.int .i64 0, .int .i64 480, .int .i64 0, .int .i64 0, .int .i64 0, .int .i64 530, .int .i64 0, .int .i64 1, .int .i64 0, .int .i64 560, .int .i64 1, .int .i64 1, .int .i64 0, .int .i64 700, .int .i64 0, .int .i64 1] 70)
          have hYr : Y1 ≠ y1.heap.size := by have := (Array.getElem?_eq_some_iff.1 hy1).1; omega
          generalize y1.alloc (.cells #[.int .i64 0, .int .i64 480, .int .i64 0, .int .i64 0, .int .i64 0, .int .i64 530, .int .i64 0, .int .i64 1, .int .i64 0, .int .i64 560, .int .i64 1, .int .i64 1, .int .i64 0, .int .i64 700, .int .i64 0, .int .i64 1] 70) = y2 at *
          generalize y1.heap.size = RBk at *
          have rq := box_cells hrc
          have r0 := rq 0
          have r1 := rq 1
          have r2 := rq 2
          have r3 := rq 3
          simp only [List.getElem?_toArray, List.getElem?_cons_zero, List.getElem?_cons_succ] at r0 r1 r2 r3
          clear rq hrc
          have hyt := heap_in (o := (.cells #[.int .i64 0, .int .i64 0, .int .i64 4, .int .i64 0, .int .i64 480, .int .i64 0, .int .i64 0] 91)) hyr
          have hbt : Below c61.heap.size c61 (y2.alloc (.cells #[.int .i64 0, .int .i64 0, .int .i64 4, .int .i64 0, .int .i64 480, .int .i64 0, .int .i64 0] 91)) := hbr1.alloc hbr1.size _
          have ho := own_blk (base := c61.heap.size) (size := 7) (n := 2) hyt hYs1 (by simp [maxLen]) rfl
          have hsrc := src_new y2 (tpC ⟨0, 0, 4, ⟨0, 480, 0, 0⟩⟩) 91 1 7 rfl
          go_wp2_with (at_builtin; refine wpList_append_src _ rfl (.tmp 184) (.tmp 189) 50 rfl c61.heap.size 91 i1 _ 7 56 Try.underlying50 hi1 hy0 hy1' hy2' rfl (by omega) _ 2 _ rfl ho (some ⟨y2.heap.size, 0, none⟩) 1 1 (tpC ⟨0, 0, 4, ⟨0, 480, 0, 0⟩⟩) rfl hsrc (by simp [tpC, Value.oneCell']) (by simp [maxLen]) (by omega) hbt.size ?_; intro v6 w7 hown6 hg6 hat6; obtain ⟨A7, c7, rfl⟩ := own_form hown6)
          have hb6 := below_grown hbt hg6 hbt.size ho (Nat.le_refl _)
          have htp : TpsAt w7 (.slice A7 3 c7) clashL := tps_own (base := c61.heap.size) (e := 91) (n := 3) (by unfold clashL; rw [List.flatMap_append]; exact hown6)
          have HB63 := Lib.hid (HB62.out.trans ((hb6).mono HB62.out.size))
          have HMr := Lib.hid (HMr.out.below (hb6))
          have HT61 := Lib.hid (HT61.out.below (hb6))
          have HTp := Lib.hid (htp)
          clear ho hsrc hbt hyt hyr hbr1 hYr hy1 hby1 hYs1 hown6 hg6 hat6 hb6 htp r0 r1 r2 r3
          have hal64 := ((Below.refl w7.heap.size w7).alloc (Nat.le_refl _) (.cells #[.int .i64 4, .int .i64 1, .int .i64 0, .int .i64 0] 3))
          have hin64 := ints_blk (W := w7.alloc (.cells #[.int .i64 4, .int .i64 1, .int .i64 0, .int .i64 0] 3)) [4, 1, 0, 0] 4 rfl (by omega) (heap_alloc_new w7 _)
          go_wp2_with fail
          refine (Missing_any cityT a61 b61 d61 _ _ clashL [4, 1, 0, 0] _ (HT61.out.below hal64) (HTp.out.below hal64) hin64 (by decide)).mono ?_
          rintro e m64 ⟨hm64, hbad64, hgood64⟩
          obtain rfl := hbad64 (by rw [val_k]; decide)
          rw [val_k]
          have hz65 := hal64.trans (hm64.mono hal64.size)
          have HB66 := Lib.hid (HB63.out.trans ((hz65).mono HB63.out.size))
          have HMr := Lib.hid (HMr.out.below (hz65))
          have HT61 := Lib.hid (HT61.out.below (hz65))
          have HTp := Lib.hid (HTp.out.below (hz65))
          clear hz65
          clear hal64 hin64 hm64 hbad64 hgood64
          clear HT61 HTp
          go_wp2
          go_loopw [18, 19] (fun so si wr => ∃ (k : Nat) (A : Option Addr) (q : Nat), k ≤ 13 ∧ so = .slice A k q ∧ si = .int .i64 (k : Int) ∧ Below m64.heap.size m64 wr ∧ wr.ownsRow m64.heap.size 91 7 (.slice A k q) k ((fullL k).flatMap tpC)) (fun so si wr => 13 - (intOf si).toNat)
          case atStart => exact ⟨0, none, 0, by omega, rfl, rfl, Below.refl _ _, World.ownsRow_nil _ _ _ _⟩
          case round =>
            obtain ⟨k, A, q, hk, rfl, rfl, hbr, hor⟩ := hrel
            have Hbr := Lib.hid hbr
            have Hor := Lib.hid hor
            clear hbr hor
            by_cases hlt : k < 13
            · have ik : (k : Int) < 13 := by omega
              obtain ⟨bq, oq, x, eA, hx, d0, d1, d2, d3, _⟩ := (HMr.out.below Hbr.out).at_ (n := 13) (k := k) (by rw [manyL_len]; exact hlt)
              subst eA
              rw [manyL_get hlt] at hx
              cases hx
              simp only at d0 d1 d2 d3
              have hsrc := src_new wr (tpC ⟨0, (k : Int), 0, ⟨0, (k : Int), 0, 0⟩⟩) 91 1 7 rfl
              go_wp2_with (at_builtin; refine wpList_append_src _ rfl (.tmp 199) (.tmp 206) 50 rfl m64.heap.size 91 i1 _ 7 56 Try.underlying50 hi1 hy0 hy1' hy2' rfl (by omega) _ k _ rfl (Hor.out.alloc _) (some ⟨wr.heap.size, 0, none⟩) 1 1 (tpC ⟨0, (k : Int), 0, ⟨0, (k : Int), 0, 0⟩⟩) rfl hsrc (by simp [tpC, Value.oneCell']) (by simp [maxLen]; omega) (by omega) (Nat.le_trans Hbr.out.size (by simp)) ?_; intro v6 w6 hown6 hg6 hat6; obtain ⟨A6, c6, rfl⟩ := own_form hown6)
              have Hb6 := Lib.hid (below_grown (Hbr.out.alloc Hbr.out.size _) hg6 (Nat.le_trans Hbr.out.size (by simp)) (Hor.out.alloc _) (Nat.le_refl _))
              have Ho6 := Lib.hid hown6
              clear hown6 hg6 hat6 hsrc d0 d1 d2 d3
              go_wp2
              go_roundw
              case rel =>
                refine ⟨k + 1, A6, c6, by omega, rfl, by go_num, Hb6.out, ?_⟩
                rw [fullL_succ, List.flatMap_append]
                have := Ho6.out
                simpa using this
              case measure => simp [intOf]; omega
            · have ik : ¬ (k : Int) < 13 := by omega
              have hke : k = 13 := by omega
              subst hke
              have hfu := tps_own Hor.out
              have Hfu0 := Lib.hid hfu
              clear hfu Hor
              have HB67 := Lib.hid (HB66.out.trans ((Hbr.out).mono HB66.out.size))
              have HMr := Lib.hid (HMr.out.below (Hbr.out))
              have HFu := Lib.hid (Hfu0.out)
              clear Hfu0
              go_wp2_with fail
              refine (city_any _).mono ?_
              rintro e c68 ⟨a68, b68, d68, rfl, hT68, hc68⟩
              have HB69 := Lib.hid (HB67.out.trans ((hc68).mono HB67.out.size))
              have HMr := Lib.hid (HMr.out.below (hc68))
              have HFu := Lib.hid (HFu.out.below (hc68))
              have HT68 := Lib.hid (hT68)
              clear hc68 hT68
              have hal := ((Below.refl c68.heap.size c68).alloc (Nat.le_refl _) (.cells #[.int .i64 13, .int .i64 0, .int .i64 0, .int .i64 0] 3))
              have hin := ints_blk (W := c68.alloc (.cells #[.int .i64 13, .int .i64 0, .int .i64 0, .int .i64 0] 3)) [13, 0, 0, 0] 4 rfl (by omega) (heap_alloc_new c68 _)
              go_wp2_with fail
              refine (Total_any cityT a68 b68 d68 _ _ (fullL 13) [13, 0, 0, 0] _ (HT68.out.below hal) (HFu.out.below hal) hin (by rw [fullL_len]; decide)).mono ?_
              rintro e t25 ⟨ht25, hbad, _⟩
              obtain rfl := hbad (by rw [val_l]; decide)
              rw [val_l]
              clear HMr HFu
              have hz70 := hal.trans (ht25.mono hal.size)
              have HB71 := Lib.hid (HB69.out.trans ((hz70).mono HB69.out.size))
              have HT68 := Lib.hid (HT68.out.below (hz70))
              clear hz70
              clear hal hin ht25 hbad
              clear HT68
              go_upto_region 26 with (fail)
              refine wp_name (fun V => Below t25.heap.size t25 V) ((Below.refl _ _).alloc (Nat.le_refl _) _) (fun V hV => ?_)
              have HB72 := Lib.hid (HB71.out.trans ((hV).mono HB71.out.size))
              clear hV
              go_wp2_with fail
              refine (city_blk _).mono ?_
              rintro e z1 ⟨G1, hG1, rfl, hs1, hd1, hw1, hz1⟩
              have HB73 := Lib.hid (HB72.out.trans ((hz1).mono HB72.out.size))
              have HBz1 := Lib.hid HB73.out
              have HKz1 := Lib.hid hw1
              have HS1 := Lib.hid hs1
              have HD1 := Lib.hid hd1
              have HK1 := Lib.hid hw1
              clear hs1 hd1 hw1
              go_wp2_with fail
              refine (city_blk _).mono ?_
              rintro e z2 ⟨G2, hG2, rfl, hs2, hd2, hw2, hz2⟩
              have HB74 := Lib.hid (HB73.out.trans ((hz2).mono HB73.out.size))
              have HS1 := Lib.hid ((hz2.block _ (Array.getElem?_eq_some_iff.1 HS1.out).1).trans HS1.out)
              have HD1 := Lib.hid ((hz2.block _ (Array.getElem?_eq_some_iff.1 HD1.out).1).trans HD1.out)
              have HK1 := Lib.hid ((hz2.block _ (Array.getElem?_eq_some_iff.1 HK1.out).1).trans HK1.out)
              have HS2 := Lib.hid hs2
              have HD2 := Lib.hid hd2
              have HK2 := Lib.hid hw2
              clear hs2 hd2 hw2
              go_upto_region 27 with (fail)
              have hG12 : G1 + 1 + 1 < z1.heap.size := by
                have h0 := HKz1.out
                exact (Array.getElem?_eq_some_iff.1 h0).1
              have hG2z : G2 + 1 + 1 < z2.heap.size := (Array.getElem?_eq_some_iff.1 HK2.out).1
              have hwz1 : w.heap.size ≤ z1.heap.size := HBz1.out.size
              have hwz2 : w.heap.size ≤ z2.heap.size := HB74.out.size
              refine wp_name (fun V => Below w.heap.size w V ∧ V.heap[z2.heap.size]? = some (.cells #[.int .i64 3, .slice (some ⟨G1, 0, none⟩) 3 3, .slice (some ⟨G1 + 1, 0, none⟩) 3 3, .slice (some ⟨G1 + 1 + 1, 0, none⟩) 3 3, .int .i64 60] 32 (0, 0)) ∧ V.heap[z2.heap.size + 1]? = some (.cells #[.int .i64 3, .slice (some ⟨G2, 0, none⟩) 3 3, .slice (some ⟨G2 + 1, 0, none⟩) 3 3, .slice (some ⟨G2 + 1 + 1, 0, none⟩) 3 3, .int .i64 60] 32 (0, 0)) ∧ ∀ k, k < z2.heap.size → V.heap[k]? = z2.heap[k]?) ⟨HB74.out.trans ((two_below z2 _ _).mono hwz2), (Below.heap_alloc _ _ _ (by simp)).trans (heap_alloc_new z2 _), heap_alloc2_new z2 _ _, fun k hk => (two_below z2 _ _).block k hk⟩ (fun V2 hV => ?_)
              obtain ⟨hv1, hv2, hv3, hv4⟩ := hV
              obtain ⟨O, hO⟩ : ∃ O, z2.heap.size = O := ⟨_, rfl⟩
              rw [hO] at hv2 hv3 hv4 hG2z hwz2 ⊢
              have kS1 := (hv4 G1 (by omega)).trans HS1.out
              have kD1 := (hv4 (G1 + 1) (by omega)).trans HD1.out
              have kK1 := (hv4 (G1 + 1 + 1) (by omega)).trans HK1.out
              have kS2 := (hv4 G2 (by omega)).trans HS2.out
              have kD2 := (hv4 (G2 + 1) (by omega)).trans HD2.out
              have kK2 := (hv4 (G2 + 1 + 1) (by omega)).trans HK2.out
              have KS1 := Lib.hid kS1
              have KD1 := Lib.hid kD1
              have KK1 := Lib.hid kK1
              have KS2 := Lib.hid kS2
              have KD2 := Lib.hid kD2
              have KK2 := Lib.hid kK2
              have V1h := Lib.hid hv1
              have V2h := Lib.hid hv2
              have V3h := Lib.hid hv3
              clear hv1 hv2 hv3 hv4 kS1 kD1 kK1 kS2 kD2 kK2 hO
              have oq := box_cells V2h.out
              have o2 := oq 2
              simp only [List.getElem?_toArray, List.getElem?_cons_zero, List.getElem?_cons_succ] at o2
              have of2 := box_frozen V2h.out 2
              clear oq
              generalize hO1 : O + 1 = O1 at *
              have hOO : O ≠ O1 := by omega
              go_upto_region 28 with (fail)
              refine wp_name (fun V => Below w.heap.size w V ∧ V.heap[O]? = some (.cells #[.int .i64 3, .slice (some ⟨G1, 0, none⟩) 3 3, .slice (some ⟨G1 + 1, 0, none⟩) 2 3, .slice (some ⟨G1 + 1 + 1, 0, none⟩) 3 3, .int .i64 60] 32 (0, 0)) ∧ ∀ k, k ≠ O → V.heap[k]? = V2.heap[k]?) ⟨V1h.out.setCell (p := ⟨O, 2, none⟩) (by simp only; omega) _, blk_set (o := 2) V2h.out _, fun k hk => heap_setCell_other V2 O 2 _ hk⟩ (fun V3 hV => ?_)
              obtain ⟨hv1, hv2, hv4⟩ := hV
              have W1h := Lib.hid hv1
              have W2h := Lib.hid hv2
              have W3h := Lib.hid ((hv4 O1 (by omega)).trans V3h.out)
              have LS1 := Lib.hid ((hv4 G1 (by omega)).trans KS1.out)
              have LD1 := Lib.hid ((hv4 (G1 + 1) (by omega)).trans KD1.out)
              have LK1 := Lib.hid ((hv4 (G1 + 1 + 1) (by omega)).trans KK1.out)
              have LS2 := Lib.hid ((hv4 G2 (by omega)).trans KS2.out)
              have LD2 := Lib.hid ((hv4 (G2 + 1) (by omega)).trans KD2.out)
              have LK2 := Lib.hid ((hv4 (G2 + 1 + 1) (by omega)).trans KK2.out)
              clear hv1 hv2 hv4 KS1 KD1 KK1 KS2 KD2 KK2 o2 of2
              have oq := box_cells W3h.out
              have o3 := oq 3
              simp only [List.getElem?_toArray, List.getElem?_cons_zero, List.getElem?_cons_succ] at o3
              clear oq
              have kq := box_cells LK2.out
              have k2 := kq 2
              simp only [List.getElem?_toArray, List.getElem?_cons_zero, List.getElem?_cons_succ] at k2
              have kf2 := box_frozen LK2.out 2
              clear kq
              obtain ⟨P, hP⟩ : ∃ P, G2 + 1 + 1 = P := ⟨_, rfl⟩
              rw [hP] at o3 k2 kf2 LK2 W3h hG2z
              go_upto_region 29 with (fail)
              refine wp_name (fun V => Below w.heap.size w V ∧ V.heap[P]? = some (.cells #[.int .i64 15, .int .i64 20, .int .i64 10001] 3 (0, 0)) ∧ ∀ k, k ≠ P → V.heap[k]? = V3.heap[k]?) ⟨W1h.out.setCell (p := ⟨P, 2, none⟩) (by simp only; omega) _, blk_set (o := 2) LK2.out _, fun k hk => heap_setCell_other V3 P 2 _ hk⟩ (fun V4 hV => ?_)
              obtain ⟨hv1, hv2, hv4⟩ := hV
              have hodd : TarAt V4 (.slice (some ⟨G1, 0, none⟩) 3 3) (.slice (some ⟨G1 + 1, 0, none⟩) 2 3) (.slice (some ⟨G1 + 1 + 1, 0, none⟩) 3 3) oddT := ⟨nums3 ((hv4 G1 (by omega)).trans LS1.out), nums_take (k := 2) (nums3 ((hv4 (G1 + 1) (by omega)).trans LD1.out)) (by omega), nums3 ((hv4 (G1 + 1 + 1) (by omega)).trans LK1.out)⟩
              have hdear : TarAt V4 (.slice (some ⟨G2, 0, none⟩) 3 3) (.slice (some ⟨G2 + 1, 0, none⟩) 3 3) (.slice (some ⟨P, 0, none⟩) 3 3) dearT := ⟨nums3 ((hv4 G2 (by omega)).trans LS2.out), nums3 ((hv4 (G2 + 1) (by omega)).trans LD2.out), nums3 hv2⟩
              have Hodd := Lib.hid hodd
              have Hdear := Lib.hid hdear
              have X1 := Lib.hid hv1
              have X2 := Lib.hid ((hv4 O (by omega)).trans W2h.out)
              have X3 := Lib.hid ((hv4 O1 (by omega)).trans W3h.out)
              clear hv1 hv2 hv4 hodd hdear LS1 LD1 LK1 LS2 LD2 LK2 o3 k2 kf2 W1h W2h W3h V1h V2h V3h
              have oq := box_cells X2.out
              have o0 := oq 0
              have o1 := oq 1
              have o2 := oq 2
              have o3 := oq 3
              have o4 := oq 4
              simp only [List.getElem?_toArray, List.getElem?_cons_zero, List.getElem?_cons_succ] at o0 o1 o2 o3 o4
              clear oq
              go_wp2_with fail
              refine (CheckTariff_any oddT _ _ _ V4 Hodd.out).mono ?_
              rintro e q1 ⟨rfl, hq1⟩
              rw [val_odd]
              have Y1h := Lib.hid (X1.out.trans (hq1.mono X1.out.size))
              have Y3 := Lib.hid ((hq1.block _ (Array.getElem?_eq_some_iff.1 X3.out).1).trans X3.out)
              have Hdear := Lib.hid (Hdear.out.below hq1)
              clear hq1 o0 o1 o2 o3 o4
              have oq := box_cells Y3.out
              have o0 := oq 0
              have o1 := oq 1
              have o2 := oq 2
              have o3 := oq 3
              have o4 := oq 4
              simp only [List.getElem?_toArray, List.getElem?_cons_zero, List.getElem?_cons_succ] at o0 o1 o2 o3 o4
              clear oq
              go_wp2_with fail
              refine (CheckTariff_any dearT _ _ _ q1 Hdear.out).mono ?_
              rintro e q2 ⟨rfl, hq2⟩
              rw [val_dear]
              have Y2h := Lib.hid (Y1h.out.trans (hq2.mono Y1h.out.size))
              clear hq2 o0 o1 o2 o3 o4
              go_wp2_with fail
              refine (CheckTariff_any noT _ _ _ q2 ⟨nums_nil _, nums_nil _, nums_nil _⟩).mono ?_
              rintro e q3 ⟨rfl, hq3⟩
              rw [val_no]
              have Y3h := Lib.hid (Y2h.out.trans (hq3.mono Y2h.out.size))
              clear hq3
              go_wp2_with fail
              refine (awake_any _).mono ?_
              rintro e q4 ⟨rfl, hq4⟩
              go_wp2
              go_ret
              exact ⟨rfl, Y3h.out.trans (hq4.mono Y3h.out.size)⟩
end Go.Proofs.Ytmbkpfkkohpnkaa
