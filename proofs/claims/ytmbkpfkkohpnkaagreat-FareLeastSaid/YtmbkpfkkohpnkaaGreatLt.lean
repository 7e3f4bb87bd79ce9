import Derived.Test.YtmbkpfkkohpnkaaGreatTb
import Derived.Test.YtmbkpfkkohpnkaaGreatTc
set_option linter.unusedVariables false
set_option linter.unusedSimpArgs false
namespace Go.Proofs.YtmbkpfkkohpnkaaGreat
open Go Go.Proofs Go.RowKit

theorem own_proved {t : Tar} {l : List Rd} (h : ridesF t l = 0) : areTk t l (chargeT t (onceL l)).2 = true ∧ sumT t (chargeT t (onceL l)).2 = priceL t l ∧ (chargeT t (onceL l)).2.length ≤ 12 := by
  obtain ⟨h1, h2, _⟩ := charge_are (ridesF_ok h)
  exact ⟨by rw [← areTk_once]; exact h1, h2, pay_few (ridesF_ok h) _⟩
theorem less_unproved {t : Tar} {l : List Rd} (X : List Tk) (h : ridesF t l = 0) : proveB t l X (priceL t l - 1) = false := by
  unfold proveB
  cases ha : areTk t l X with
  | false => simp
  | true =>
    have := areTk_iff.1 ha
    have h2 := (price_least h).2 X (fun x hx => (this.1 x hx).1) this.2
    rw [decide_eq_false (show ¬ sumT t X ≤ priceL t l - 1 by omega)]
    simp
set_option maxRecDepth 100000 in
set_option maxHeartbeats 4000000 in
theorem Least_law (t : Tar) (a b c v z : Value) (l : List Rd) (X : List Tk) (w : World) (hT : TarAt w a b c t) (hv : RdsAt w v l) (hz : TksAt w z X) (hk : ∀ x ∈ X, x.kind < 256) :
    Calls Tryz.prog 4 #[.agg #[.int .i64 t.zones, a, b, c, .int .i64 t.window], v, z] w (Gives w (.bool true)) := by
  obtain ⟨Av, cv, rfl, _, _⟩ := hv.form
  obtain ⟨Az, cz, rfl, _, _⟩ := hz.form
  obtain ⟨N, hN⟩ : ∃ N, l.length = N := ⟨_, rfl⟩
  obtain ⟨M, hM⟩ : ∃ M, X.length = M := ⟨_, rfl⟩
  rw [hN] at hv ⊢
  rw [hM] at hz ⊢
  have HN := Lib.hid hN
  have HM := Lib.hid hM
  have HT := Lib.hid hT
  have Hv := Lib.hid hv
  have Hz := Lib.hid hz
  have Hk := Lib.hid hk
  clear hT hv hz hN hM hk
  go_enter Tryz.func4, Tryz.ntmps4
  go_upto_region 1 with (fail)
  refine wp_name (fun W => Below w.heap.size w W ∧ W.heap[w.heap.size]? = some (.cells #[.int .i64 t.zones, a, b, c, .int .i64 t.window] 24 (0, 0))) ⟨(Below.refl _ _).alloc (Nat.le_refl _) _, heap_alloc_new w _⟩ (fun W0 hW => ?_)
  obtain ⟨hb0, hx0⟩ := hW
  have HB0 := Lib.hid hb0
  have HX0 := Lib.hid hx0
  clear hb0 hx0
  have aq := box_cells HX0.out
  have a0 := aq 0
  have a1 := aq 1
  have a2 := aq 2
  have a3 := aq 3
  have a4 := aq 4
  simp only [List.getElem?_toArray, List.getElem?_cons_zero, List.getElem?_cons_succ] at a0 a1 a2 a3 a4
  clear aq
  go_wp2_with fail
  refine (ready_any t a b c _ l W0 (HT.out.below HB0.out) (Hv.out.below HB0.out)).mono ?_
  rintro e w1 ⟨rfl, hb1⟩
  clear a0 a1 a2 a3 a4
  have HB1 := Lib.hid (HB0.out.trans (hb1.mono HB0.out.size))
  have HX1 := Lib.hid ((hb1.block _ (Array.getElem?_eq_some_iff.1 HX0.out).1).trans HX0.out)
  clear hb1
  cases hre : readyB t l with
  | false =>
    clear hre
    go_wp2_with fail
    refine (awake_any _).mono ?_
    rintro e wz2 ⟨rfl, hbz2⟩
    go_wp2
    go_ret
    exact ⟨rfl, HB1.out.trans (hbz2.mono HB1.out.size)⟩
  | true =>
    obtain ⟨hth, h20, h0⟩ := ready_iff.1 hre
    rw [HN.out] at h20
    have Hth := Lib.hid hth
    have H0 := Lib.hid h0
    obtain ⟨ht, _, _⟩ := ridesF_all h0
    have Ht := Lib.hid ht
    clear hre hth ht
    by_cases h35 : 35 < M
    · have i35 : (35 : Int) < (M : Int) := by omega
      clear h35
      go_wp2_with fail
      refine (awake_any _).mono ?_
      rintro e wz3 ⟨rfl, hbz3⟩
      go_wp2
      go_ret
      exact ⟨rfl, HB1.out.trans (hbz3.mono HB1.out.size)⟩
    have i35 : ¬ (35 : Int) < (M : Int) := by omega
    have hM35 : M ≤ 35 := by omega
    clear h35
    obtain ⟨o1, o2, o3⟩ := own_proved h0
    have hless := less_unproved X h0
    have hpb := price_bd2 h0
    clear h0
    obtain ⟨pn, hpn⟩ : ∃ pn, priceL t l = pn := ⟨_, rfl⟩
    have hpn' : (chargeT t (onceL l)).1 = pn := hpn
    rw [hpn] at o2 hless hpb
    obtain ⟨O, hO⟩ : ∃ O, (chargeT t (onceL l)).2 = O := ⟨_, rfl⟩
    rw [hO] at o1 o2 o3
    obtain ⟨Q, hK⟩ : ∃ Q, O.length = Q := ⟨_, rfl⟩
    rw [hK] at o3
    have HO := Lib.hid hO
    have HK := Lib.hid hK
    have HPn := Lib.hid hpn'
    have Ho1 := Lib.hid o1
    have Ho2 := Lib.hid o2
    have Hless := Lib.hid hless
    have Hal := Lib.hid (show ∀ x ∈ O, tkB t x = true from fun x hx => (((areTk_iff.1 o1).1) x hx).1)
    have Hpr := Lib.hid (show proveB t l O pn = true by
      unfold proveB
      rw [H0.out, o1, o2, hK, decide_eq_true (show Q ≤ 30 by omega)]
      simp)
    have Hk2 := Lib.hid (show ∀ x ∈ O, x.kind < 256 from fun x hx => (tk_minute (Hal.out x hx)).1)
    clear hpn hpn' hO hK o1 o2 hless
    have aq := box_cells HX1.out
    have a0 := aq 0
    have a1 := aq 1
    have a2 := aq 2
    have a3 := aq 3
    have a4 := aq 4
    simp only [List.getElem?_toArray, List.getElem?_cons_zero, List.getElem?_cons_succ] at a0 a1 a2 a3 a4
    clear aq
    go_wp2_with fail
    refine (Tariff_law t a b c _ (HT.out.below HB1.out) Hth.out).mono ?_
    rintro e xa4 ⟨pa4, pb4, pc4, rfl, hT4, hxa4⟩
    clear a0 a1 a2 a3 a4
    have HB5 := Lib.hid (HB1.out.trans (hxa4.mono HB1.out.size))
    have HX5 := Lib.hid ((hxa4.block _ (Array.getElem?_eq_some_iff.1 HX1.out).1).trans HX1.out)
    go_wp2_with fail
    refine (Rides_law _ l _ (Hv.out.below HB5.out) (by have := HN.out; omega)).mono ?_
    rintro e xb4 ⟨pA4, pk4, rfl, hr4, hxb4⟩
    have hT4 := hT4.below hxb4
    have HB6 := Lib.hid (HB5.out.trans (hxb4.mono HB5.out.size))
    have HX6 := Lib.hid ((hxb4.block _ (Array.getElem?_eq_some_iff.1 HX5.out).1).trans HX5.out)
    go_wp2_with fail
    refine (Tickets_any t pa4 pb4 pc4 _ l _ hT4 hr4 (by have := HN.out; omega)).mono ?_
    rintro e xc ⟨hxc, _, hg⟩
    obtain ⟨TA, Tk, rfl, hown⟩ := hg H0.out
    rw [HO.out, HK.out] at hown
    rw [HO.out, HK.out, HPn.out]
    have hto := tks_own hown
    have Hto := Lib.hid hto
    clear hg hown hto hT4 hr4
    have HB7 := Lib.hid (HB6.out.trans (hxc.mono HB6.out.size))
    have HX7 := Lib.hid ((hxc.block _ (Array.getElem?_eq_some_iff.1 HX6.out).1).trans HX6.out)
    clear hxc
    have aq := box_cells HX7.out
    have a0 := aq 0
    have a1 := aq 1
    have a2 := aq 2
    have a3 := aq 3
    have a4 := aq 4
    simp only [List.getElem?_toArray, List.getElem?_cons_zero, List.getElem?_cons_succ] at a0 a1 a2 a3 a4
    clear aq
    go_upto_region 4 with (fail)
    refine wp_region_noPanic ?_
    refine wp_region_ph [([0, 1, 2, 3, 4, 5], [6, 7]), ([8, 9, 10, 11, 12, 15], [13, 14]), ([16, 17, 18, 19, 21, 23, 24], [20, 22, 25]), ([26, 27], [])] (fun _ => true) (fun w' => Below xc.heap.size xc w') (by kernel_rfl) (by kernel_rfl) (fun _ _ _ _ _ h => h) ?_
    have hd : Below xc.heap.size xc xc.drew := (Below.refl _ _).drew
    have Acc0 := Lib.hid hd
    obtain ⟨wd, hwd⟩ : ∃ W, W = xc.drew := ⟨_, rfl⟩
    rw [← hwd] at hd Acc0 ⊢
    clear hwd hd
    refine wpPh_cons Acc0.out (fun hne => ?_)
    have n0 := fun x : Meets (fun w' => Below xc.heap.size xc w') => cell_below x.property a0
    have n1 := fun x : Meets (fun w' => Below xc.heap.size xc w') => cell_below x.property a1
    have n2 := fun x : Meets (fun w' => Below xc.heap.size xc w') => cell_below x.property a2
    have n3 := fun x : Meets (fun w' => Below xc.heap.size xc w') => cell_below x.property a3
    have n4 := fun x : Meets (fun w' => Below xc.heap.size xc w') => cell_below x.property a4
    simp only [pick, pickN, List.filterMap_cons, List.filterMap_nil, List.getElem?_cons_zero, List.getElem?_cons_succ, Option.map_some]
    repeat (change wpQuiet _ _ _ _ (_ :: _) _; go_big_quiet_step (fail))
    refine wpQuiet_nil ?_
    clear n0 n1 n2 n3 n4 hne
    refine wpSeqK_step (fun K hK => ?_)
    go_simp
    refine (Back_law _ O _ (Hto.out.below Acc0.out) (by have := HK.out; omega)).mono ?_
    rintro e wq1 ⟨B1, k1, rfl, hbk1, hq1⟩
    have Acc1 := Lib.hid (Acc0.out.trans (hq1.mono Acc0.out.size))
    rw [HK.out] at hbk1 ⊢
    refine hK.out _ _ (fun _ => Acc1.out) ?_
    clear hK K hq1
    refine wpSeqK_step (fun K hK => ?_)
    go_simp
    refine (AreTickets_ref t a b c _ _ l O _ Ht.out (Hv.out.below (HB7.out.trans (Acc1.out.mono HB7.out.size))) hbk1 Hk2.out ⟨by have := HN.out; omega, by have := HK.out; omega⟩).mono ?_
    rintro e wq2 ⟨rfl, hq2⟩
    have Acc2 := Lib.hid (Acc1.out.trans (hq2.mono Acc1.out.size))
    rw [Ho1.out]
    clear hbk1
    refine hK.out _ _ (fun _ => Acc2.out) ?_
    clear hK K hq2
    refine wpSeqK_nil ?_
    refine wpPh_cons Acc2.out (fun hne => ?_)
    have n0 := fun x : Meets (fun w' => Below xc.heap.size xc w') => cell_below x.property a0
    have n1 := fun x : Meets (fun w' => Below xc.heap.size xc w') => cell_below x.property a1
    have n2 := fun x : Meets (fun w' => Below xc.heap.size xc w') => cell_below x.property a2
    have n3 := fun x : Meets (fun w' => Below xc.heap.size xc w') => cell_below x.property a3
    have n4 := fun x : Meets (fun w' => Below xc.heap.size xc w') => cell_below x.property a4
    simp only [pick, pickN, List.filterMap_cons, List.filterMap_nil, List.getElem?_cons_zero, List.getElem?_cons_succ, Option.map_some]
    repeat (change wpQuiet _ _ _ _ (_ :: _) _; go_big_quiet_step (fail))
    refine wpQuiet_nil ?_
    clear n0 n1 n2 n3 n4 hne
    refine wpSeqK_step (fun K hK => ?_)
    go_simp
    refine (Back_law _ O _ (Hto.out.below Acc2.out) (by have := HK.out; omega)).mono ?_
    rintro e wq3 ⟨B2, k2, rfl, hbk2, hq3⟩
    have Acc3 := Lib.hid (Acc2.out.trans (hq3.mono Acc2.out.size))
    rw [HK.out] at hbk2 ⊢
    refine hK.out _ _ (fun _ => Acc3.out) ?_
    clear hK K hq3
    refine wpSeqK_step (fun K hK => ?_)
    go_simp
    refine (Sum_ref t a b c _ O _ Ht.out (HT.out.below (HB7.out.trans (Acc3.out.mono HB7.out.size))) hbk2 Hal.out (by have := HK.out; omega)).mono ?_
    rintro e wq4 ⟨rfl, hq4⟩
    have Acc4 := Lib.hid (Acc3.out.trans (hq4.mono Acc3.out.size))
    rw [Ho2.out]
    clear hbk2
    refine hK.out _ _ (fun _ => Acc4.out) ?_
    clear hK K hq4
    refine wpSeqK_nil ?_
    refine wpPh_cons Acc4.out (fun hne => ?_)
    have n0 := fun x : Meets (fun w' => Below xc.heap.size xc w') => cell_below x.property a0
    have n1 := fun x : Meets (fun w' => Below xc.heap.size xc w') => cell_below x.property a1
    have n2 := fun x : Meets (fun w' => Below xc.heap.size xc w') => cell_below x.property a2
    have n3 := fun x : Meets (fun w' => Below xc.heap.size xc w') => cell_below x.property a3
    have n4 := fun x : Meets (fun w' => Below xc.heap.size xc w') => cell_below x.property a4
    simp only [pick, pickN, List.filterMap_cons, List.filterMap_nil, List.getElem?_cons_zero, List.getElem?_cons_succ, Option.map_some]
    repeat (change wpQuiet _ _ _ _ (_ :: _) _; go_big_quiet_step (fail))
    refine wpQuiet_nil ?_
    clear n0 n1 n2 n3 n4 hne
    refine wpSeqK_step (fun K hK => ?_)
    go_simp
    refine (Tariff_law t a b c _ (HT.out.below (HB7.out.trans (Acc4.out.mono HB7.out.size))) Hth.out).mono ?_
    rintro e wq5 ⟨pa9, pb9, pc9, rfl, hT9, hq5⟩
    have Acc5 := Lib.hid (Acc4.out.trans (hq5.mono Acc4.out.size))
    refine hK.out _ _ (fun _ => Acc5.out) ?_
    clear hK K hq5
    refine wpSeqK_step (fun K hK => ?_)
    go_simp
    refine (Rides_law _ l _ (Hv.out.below (HB7.out.trans (Acc5.out.mono HB7.out.size))) (by have := HN.out; omega)).mono ?_
    rintro e wq6 ⟨pA9, pk9, rfl, hr9, hq6⟩
    have Acc6 := Lib.hid (Acc5.out.trans (hq6.mono Acc5.out.size))
    have hT9 := hT9.below hq6
    refine hK.out _ _ (fun _ => Acc6.out) ?_
    clear hK K hq6
    refine wpSeqK_step (fun K hK => ?_)
    go_simp
    refine (ProveTickets_any t pa9 pb9 pc9 _ _ l O pn _ hT9 hr9 (Hto.out.below Acc6.out) Hk2.out (by have := HN.out; omega)).mono ?_
    rintro e wq7 ⟨rfl, hq7⟩
    have Acc7 := Lib.hid (Acc6.out.trans (hq7.mono Acc6.out.size))
    rw [Hpr.out]
    refine hK.out _ _ (fun _ => Acc7.out) ?_
    clear hK K hq7
    refine wpSeqK_nil ?_
    refine wpPh_cons Acc7.out (fun hne => ?_)
    have n0 := fun x : Meets (fun w' => Below xc.heap.size xc w') => cell_below x.property a0
    have n1 := fun x : Meets (fun w' => Below xc.heap.size xc w') => cell_below x.property a1
    have n2 := fun x : Meets (fun w' => Below xc.heap.size xc w') => cell_below x.property a2
    have n3 := fun x : Meets (fun w' => Below xc.heap.size xc w') => cell_below x.property a3
    have n4 := fun x : Meets (fun w' => Below xc.heap.size xc w') => cell_below x.property a4
    simp only [pick, pickN, List.filterMap_cons, List.filterMap_nil, List.getElem?_cons_zero, List.getElem?_cons_succ, Option.map_some]
    repeat (change wpQuiet _ _ _ _ (_ :: _) _; go_big_quiet_step (fail))
    refine wpQuiet_nil ?_
    clear n0 n1 n2 n3 n4 hne
    refine wpSeqK_nil ?_
    refine wpPh_nil ?_
    refine NoPanic.normal ?_
    clear hT9 hr9
    clear a0 a1 a2 a3 a4
    have HB8 := Lib.hid (HB7.out.trans (Acc7.out.mono HB7.out.size))
    have HX8 := Lib.hid ((Acc7.out.block _ (Array.getElem?_eq_some_iff.1 HX7.out).1).trans HX7.out)
    by_cases hz0 : pn = 0
    · have hz1 : (pn == 0) = true := by simpa using hz0
      go_wp2_with fail
      refine (awake_any _).mono ?_
      rintro e wz9 ⟨rfl, hbz9⟩
      go_wp2
      go_ret
      exact ⟨rfl, HB8.out.trans (hbz9.mono HB8.out.size)⟩
    have hz1 : (pn == 0) = false := by simpa using hz0
    have aq := box_cells HX8.out
    have a0 := aq 0
    have a1 := aq 1
    have a2 := aq 2
    have a3 := aq 3
    have a4 := aq 4
    simp only [List.getElem?_toArray, List.getElem?_cons_zero, List.getElem?_cons_succ] at a0 a1 a2 a3 a4
    clear aq
    go_wp2_with fail
    refine (Tariff_law t a b c _ (HT.out.below HB8.out) Hth.out).mono ?_
    rintro e xa10 ⟨pa10, pb10, pc10, rfl, hT10, hxa10⟩
    clear a0 a1 a2 a3 a4
    have HB11 := Lib.hid (HB8.out.trans (hxa10.mono HB8.out.size))
    have HX11 := Lib.hid ((hxa10.block _ (Array.getElem?_eq_some_iff.1 HX8.out).1).trans HX8.out)
    go_wp2_with fail
    refine (Rides_law _ l _ (Hv.out.below HB11.out) (by have := HN.out; omega)).mono ?_
    rintro e xb10 ⟨pA10, pk10, rfl, hr10, hxb10⟩
    have hT10 := hT10.below hxb10
    have HB12 := Lib.hid (HB11.out.trans (hxb10.mono HB11.out.size))
    have HX12 := Lib.hid ((hxb10.block _ (Array.getElem?_eq_some_iff.1 HX11.out).1).trans HX11.out)
    go_wp2_with fail
    refine (Tickets_law _ X _ (Hz.out.below HB12.out) (by have := HM.out; omega)).mono ?_
    rintro e xc10 ⟨pB10, pq10, rfl, hz10, hxc10⟩
    have hT10 := hT10.below hxc10
    have hr10 := hr10.below hxc10
    have HB13 := Lib.hid (HB12.out.trans (hxc10.mono HB12.out.size))
    have HX13 := Lib.hid ((hxc10.block _ (Array.getElem?_eq_some_iff.1 HX12.out).1).trans HX12.out)
    go_wp2_with fail
    refine (ProveTickets_any t pa10 pb10 pc10 _ _ l X (pn - 1) _ hT10 hr10 hz10 Hk.out (by have := HN.out; omega)).mono ?_
    rintro e xd10 ⟨rfl, hxd10⟩
    rw [Hless.out]
    have HB14 := Lib.hid (HB13.out.trans (hxd10.mono HB13.out.size))
    have HX14 := Lib.hid ((hxd10.block _ (Array.getElem?_eq_some_iff.1 HX13.out).1).trans HX13.out)
    go_wp2_with fail
    refine (awake_any _).mono ?_
    rintro e wz15 ⟨rfl, hbz15⟩
    go_wp2
    go_ret
    exact ⟨rfl, HB14.out.trans (hbz15.mono HB14.out.size)⟩
end Go.Proofs.YtmbkpfkkohpnkaaGreat
