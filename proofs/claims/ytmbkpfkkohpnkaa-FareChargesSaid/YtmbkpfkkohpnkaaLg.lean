import Derived.Test.YtmbkpfkkohpnkaaTa
import Derived.Test.YtmbkpfkkohpnkaaKe
set_option linter.unusedVariables false
set_option linter.unusedSimpArgs false
namespace Go.Proofs.Ytmbkpfkkohpnkaa
open Go Go.Proofs Go.RowKit

theorem startB_uniq {l : List Rd} {x : Tk} : startB (uniqL l) x = startB l x := by
  unfold startB
  congr 1
  rw [Bool.eq_iff_iff, List.any_eq_true, List.any_eq_true]
  constructor
  · rintro ⟨r, h1, h2⟩; exact ⟨r, mem_uniqL.1 h1, h2⟩
  · rintro ⟨r, h1, h2⟩; exact ⟨r, mem_uniqL.2 h1, h2⟩
theorem areTk_uniq {t : Tar} {l : List Rd} {X : List Tk} : areTk t (uniqL l) X = areTk t l X := by
  rw [Bool.eq_iff_iff, areTk_iff, areTk_iff]
  constructor
  · rintro ⟨h1, h2⟩; exact ⟨fun x hx => ⟨(h1 x hx).1, by rw [← startB_uniq]; exact (h1 x hx).2⟩, fun r hr => h2 r (mem_uniqL.2 hr)⟩
  · rintro ⟨h1, h2⟩; exact ⟨fun x hx => ⟨(h1 x hx).1, by rw [startB_uniq]; exact (h1 x hx).2⟩, fun r hr => h2 r (mem_uniqL.1 hr)⟩
theorem least_uniq {t : Tar} {l : List Rd} {n : Int} (h : LeastT t l n) : LeastT t (uniqL l) n := by
  obtain ⟨⟨X, h1, h2⟩, h3⟩ := h
  exact ⟨⟨X, by rw [areTk_uniq]; exact h1, h2⟩, fun Y h4 h5 => h3 Y h4 fun r hr => h5 r (mem_uniqL.2 hr)⟩
theorem charge_uniq {t : Tar} {l : List Rd} (h : ridesF t l = 0) : chargeR t (uniqL l) [] = priceL t l := by
  obtain ⟨ht, _, hr⟩ := ridesF_all h
  exact chargeR_least ht (fun r hx => hr r (mem_uniqL.1 hx)) (least_uniq (price_least h))
theorem own_tickets {t : Tar} {l : List Rd} (h : ridesF t l = 0) : areTk t l (chargeT t (onceL l)).2 = true ∧ sumT t (chargeT t (onceL l)).2 = priceL t l ∧ (chargeT t (onceL l)).2.length ≤ 12 := by
  obtain ⟨h1, h2, _⟩ := charge_are (ridesF_ok h)
  exact ⟨by rw [← areTk_once]; exact h1, h2, pay_few (ridesF_ok h) _⟩
theorem fit_nil {t : Tar} {n : Nat} (h : n ≤ 900) : GsFit t n [] := ⟨fun g hg => (List.not_mem_nil hg).elim, by simpa using h, fun g hg => (List.not_mem_nil hg).elim⟩
set_option maxRecDepth 100000 in
set_option maxHeartbeats 4000000 in
theorem Charges_law (t : Tar) (a b c v : Value) (l : List Rd) (w : World) (hT : TarAt w a b c t) (hv : RdsAt w v l) :
    Calls Try.prog 3 #[.agg #[.int .i64 t.zones, a, b, c, .int .i64 t.window], v] w (Gives w (.bool true)) := by
  obtain ⟨Av, cv, rfl, _, _⟩ := hv.form
  obtain ⟨N, hN⟩ : ∃ N, l.length = N := ⟨_, rfl⟩
  rw [hN] at hv ⊢
  have HN := Lib.hid hN
  have HT := Lib.hid hT
  have Hv := Lib.hid hv
  clear hT hv hN
  go_enter Try.func3, Try.ntmps3
  go_upto_region 1 with (fail)
  refine wp_name (fun W => Below w.heap.size w W ∧ W.heap[w.heap.size]? = some (.cells #[.int .i64 t.zones, a, b, c, .int .i64 t.window] 24 (0, 0))) ⟨(Below.refl _ _).alloc (Nat.le_refl _) _, heap_alloc_new w _⟩ (fun W0 hW => ?_)
  obtain ⟨hb0, hx0⟩ := hW
  have HB0 := Lib.hid hb0
  have HX0 := Lib.hid hx0
  clear hb0 hx0
  have aq := box_cells HX0.out
  have a0 := aq 0
  have a1 := aq 1
  have a2 := aq 2
  have a3 := aq 3
  have a4 := aq 4
  simp only [List.getElem?_toArray, List.getElem?_cons_zero, List.getElem?_cons_succ] at a0 a1 a2 a3 a4
  clear aq
  go_wp2_with fail
  refine (Thin_any t a b c W0 (HT.out.below HB0.out)).mono ?_
  rintro e w1 ⟨rfl, hb1⟩
  clear a0 a1 a2 a3 a4
  have HB1 := Lib.hid (HB0.out.trans (hb1.mono HB0.out.size))
  have HX1 := Lib.hid ((hb1.block _ (Array.getElem?_eq_some_iff.1 HX0.out).1).trans HX0.out)
  clear hb1
  cases hth : thinB t with
  | false =>
    clear hth
    go_wp2_with fail
    refine (awake_any _).mono ?_
    rintro e wz2 ⟨rfl, hbz2⟩
    go_wp2
    go_ret
    exact ⟨rfl, HB1.out.trans (hbz2.mono HB1.out.size)⟩
  | true =>
    have Hth := Lib.hid hth
    clear hth
    by_cases h15 : 15 < N
    · have i15 : (15 : Int) < (N : Int) := by omega
      clear h15
      go_wp2_with fail
      refine (awake_any _).mono ?_
      rintro e wz3 ⟨rfl, hbz3⟩
      go_wp2
      go_ret
      exact ⟨rfl, HB1.out.trans (hbz3.mono HB1.out.size)⟩
    have i15 : ¬ (15 : Int) < (N : Int) := by omega
    have hN15 : N ≤ 15 := by omega
    clear h15
    have aq := box_cells HX1.out
    have a0 := aq 0
    have a1 := aq 1
    have a2 := aq 2
    have a3 := aq 3
    have a4 := aq 4
    simp only [List.getElem?_toArray, List.getElem?_cons_zero, List.getElem?_cons_succ] at a0 a1 a2 a3 a4
    clear aq
    go_wp2_with fail
    refine (rides_law t a b c _ l _ (HT.out.below HB1.out) (Hv.out.below HB1.out) (by have := HN.out; omega)).mono ?_
    rintro e xr4 ⟨rfl, hxr4⟩
    clear a0 a1 a2 a3 a4
    have HB5 := Lib.hid (HB1.out.trans (hxr4.mono HB1.out.size))
    have HX5 := Lib.hid ((hxr4.block _ (Array.getElem?_eq_some_iff.1 HX1.out).1).trans HX1.out)
    clear hxr4
    obtain ⟨F, hF⟩ : ∃ F, ridesF t l = F := ⟨_, rfl⟩
    rw [hF]
    have HF := Lib.hid hF
    clear hF
    by_cases h0 : F = 0
    · subst h0
      go_wp2_with fail
      refine (Once_ref _ l _ (Hv.out.below HB5.out) (by have := HN.out; omega)).mono ?_
      rintro e xo6 ⟨oA, oc, rfl, _, hxo6⟩
      obtain ⟨U, hU⟩ : ∃ U, (uniqL l).length = U := ⟨_, rfl⟩
      rw [hU]
      have HU := Lib.hid hU
      clear hU
      have HB7 := Lib.hid (HB5.out.trans (hxo6.mono HB5.out.size))
      have HX7 := Lib.hid ((hxo6.block _ (Array.getElem?_eq_some_iff.1 HX5.out).1).trans HX5.out)
      clear hxo6
      by_cases h6 : 6 < U
      · have i6 : (6 : Int) < (U : Int) := by omega
        clear h6
        go_wp2_with fail
        refine (awake_any _).mono ?_
        rintro e wz8 ⟨rfl, hbz8⟩
        go_wp2
        go_ret
        exact ⟨rfl, HB7.out.trans (hbz8.mono HB7.out.size)⟩
      have i6 : ¬ (6 : Int) < (U : Int) := by omega
      have hU6 : U ≤ 6 := by omega
      clear h6
      have aq := box_cells HX7.out
      have a0 := aq 0
      have a1 := aq 1
      have a2 := aq 2
      have a3 := aq 3
      have a4 := aq 4
      simp only [List.getElem?_toArray, List.getElem?_cons_zero, List.getElem?_cons_succ] at a0 a1 a2 a3 a4
      clear aq
      go_wp2_with fail
      refine (Tariff_law t a b c _ (HT.out.below HB7.out) Hth.out).mono ?_
      rintro e xa9 ⟨pa9, pb9, pc9, rfl, hT9, hxa9⟩
      clear a0 a1 a2 a3 a4
      have HB10 := Lib.hid (HB7.out.trans (hxa9.mono HB7.out.size))
      have HX10 := Lib.hid ((hxa9.block _ (Array.getElem?_eq_some_iff.1 HX7.out).1).trans HX7.out)
      go_wp2_with fail
      refine (CheckTariff_any t pa9 pb9 pc9 _ hT9).mono ?_
      rintro e xd9 ⟨rfl, hxd9⟩
      obtain ⟨FT, hFT⟩ : ∃ F, faultT t = F := ⟨_, rfl⟩
      rw [hFT]
      have HFT := Lib.hid hFT
      clear hFT hT9
      have HB11 := Lib.hid (HB10.out.trans (hxd9.mono HB10.out.size))
      have HX11 := Lib.hid ((hxd9.block _ (Array.getElem?_eq_some_iff.1 HX10.out).1).trans HX10.out)
      have aq := box_cells HX11.out
      have a0 := aq 0
      have a1 := aq 1
      have a2 := aq 2
      have a3 := aq 3
      have a4 := aq 4
      simp only [List.getElem?_toArray, List.getElem?_cons_zero, List.getElem?_cons_succ] at a0 a1 a2 a3 a4
      clear aq
      go_wp2_with fail
      refine (Tariff_law t a b c _ (HT.out.below HB11.out) Hth.out).mono ?_
      rintro e xa12 ⟨pa12, pb12, pc12, rfl, hT12, hxa12⟩
      clear a0 a1 a2 a3 a4
      have HB13 := Lib.hid (HB11.out.trans (hxa12.mono HB11.out.size))
      have HX13 := Lib.hid ((hxa12.block _ (Array.getElem?_eq_some_iff.1 HX11.out).1).trans HX11.out)
      go_wp2_with fail
      refine (Rides_law _ l _ (Hv.out.below HB13.out) (by have := HN.out; omega)).mono ?_
      rintro e xb12 ⟨pA12, pk12, rfl, hr12, hxb12⟩
      have hT12 := hT12.below hxb12
      have HB14 := Lib.hid (HB13.out.trans (hxb12.mono HB13.out.size))
      have HX14 := Lib.hid ((hxb12.block _ (Array.getElem?_eq_some_iff.1 HX13.out).1).trans HX13.out)
      obtain ⟨o1, o2, o3⟩ := own_tickets HF.out
      have hcr := charge_uniq HF.out
      obtain ⟨ht, _, hall⟩ := ridesF_all HF.out
      obtain ⟨pn, hpn⟩ : ∃ pn, priceL t l = pn := ⟨_, rfl⟩
      have hpn' : (chargeT t (onceL l)).1 = pn := hpn
      rw [hpn] at o2 hcr
      obtain ⟨O, hO⟩ : ∃ O, (chargeT t (onceL l)).2 = O := ⟨_, rfl⟩
      rw [hO] at o1 o2 o3
      obtain ⟨Q, hQ⟩ : ∃ Q, O.length = Q := ⟨_, rfl⟩
      rw [hQ] at o3
      have HO := Lib.hid hO
      have HQ := Lib.hid hQ
      have HPn := Lib.hid hpn'
      have Ho1 := Lib.hid o1
      have Ho2 := Lib.hid o2
      have Hcr := Lib.hid hcr
      have Ht := Lib.hid ht
      have Hall := Lib.hid (show ∀ r ∈ uniqL l, rideB t r = true from fun r hr => hall r (mem_uniqL.1 hr))
      have Hal := Lib.hid (show ∀ x ∈ O, tkB t x = true from fun x hx => (((areTk_iff.1 o1).1) x hx).1)
      have Hk2 := Lib.hid (show ∀ x ∈ O, x.kind < 256 from fun x hx => (tk_minute (Hal.out x hx)).1)
      clear hpn hpn' hO hQ o1 o2 hcr ht hall
      go_wp2_with fail
      refine (Tickets_any t pa12 pb12 pc12 _ l _ hT12 hr12 (by have := HN.out; omega)).mono ?_
      rintro e xc ⟨hxc, _, hg⟩
      obtain ⟨TA, Tk, rfl, hown⟩ := hg HF.out
      rw [HO.out, HQ.out] at hown
      rw [HO.out, HQ.out, HPn.out]
      have hto := tks_own hown
      have Hto := Lib.hid hto
      clear hg hown hto hT12 hr12
      have HB15 := Lib.hid (HB14.out.trans (hxc.mono HB14.out.size))
      have HX15 := Lib.hid ((hxc.block _ (Array.getElem?_eq_some_iff.1 HX14.out).1).trans HX14.out)
      have aq := box_cells HX15.out
      have a0 := aq 0
      have a1 := aq 1
      have a2 := aq 2
      have a3 := aq 3
      have a4 := aq 4
      simp only [List.getElem?_toArray, List.getElem?_cons_zero, List.getElem?_cons_succ] at a0 a1 a2 a3 a4
      clear aq
      clear hxc
      go_wp2_with fail
      refine (fault_law t a b c _ (HT.out.below HB15.out)).mono ?_
      rintro e xf16 ⟨rfl, hxf16⟩
      rw [HFT.out]
      have Hto := Lib.hid (Hto.out.below hxf16)
      clear a0 a1 a2 a3 a4
      have HB17 := Lib.hid (HB15.out.trans (hxf16.mono HB15.out.size))
      have HX17 := Lib.hid ((hxf16.block _ (Array.getElem?_eq_some_iff.1 HX15.out).1).trans HX15.out)
      have aq := box_cells HX17.out
      have a0 := aq 0
      have a1 := aq 1
      have a2 := aq 2
      have a3 := aq 3
      have a4 := aq 4
      simp only [List.getElem?_toArray, List.getElem?_cons_zero, List.getElem?_cons_succ] at a0 a1 a2 a3 a4
      clear aq
      go_wp2_with fail
      refine (rides_law t a b c _ l _ (HT.out.below HB17.out) (Hv.out.below HB17.out) (by have := HN.out; omega)).mono ?_
      rintro e xr18 ⟨rfl, hxr18⟩
      rw [HF.out]
      have Hto := Lib.hid (Hto.out.below hxr18)
      clear a0 a1 a2 a3 a4
      have HB19 := Lib.hid (HB17.out.trans (hxr18.mono HB17.out.size))
      have HX19 := Lib.hid ((hxr18.block _ (Array.getElem?_eq_some_iff.1 HX17.out).1).trans HX17.out)
      clear hxr18
      have aq := box_cells HX19.out
      have a0 := aq 0
      have a1 := aq 1
      have a2 := aq 2
      have a3 := aq 3
      have a4 := aq 4
      simp only [List.getElem?_toArray, List.getElem?_cons_zero, List.getElem?_cons_succ] at a0 a1 a2 a3 a4
      clear aq
      go_upto_region 10 with (fail)
      refine wp_region_noPanic ?_
      refine wp_region_ph [([0, 1, 2, 3, 4, 5], [6, 7]), ([8, 9, 10, 11, 14], [12, 13]), ([15, 16, 17, 18, 19, 20], [21, 22]), ([23, 24, 25], [26]), ([27, 28], [])] (fun _ => true) (fun w' => Below xr18.heap.size xr18 w') (by kernel_rfl) (by kernel_rfl) (fun _ _ _ _ _ h => h) ?_
      have hd : Below xr18.heap.size xr18 xr18.drew := (Below.refl _ _).drew
      have Acc0 := Lib.hid hd
      obtain ⟨wd, hwd⟩ : ∃ W, W = xr18.drew := ⟨_, rfl⟩
      rw [← hwd] at hd Acc0 ⊢
      clear hwd hd
      refine wpPh_cons Acc0.out (fun hne => ?_)
      have n0 := fun x : Meets (fun w' => Below xr18.heap.size xr18 w') => cell_below x.property a0
      have n1 := fun x : Meets (fun w' => Below xr18.heap.size xr18 w') => cell_below x.property a1
      have n2 := fun x : Meets (fun w' => Below xr18.heap.size xr18 w') => cell_below x.property a2
      have n3 := fun x : Meets (fun w' => Below xr18.heap.size xr18 w') => cell_below x.property a3
      have n4 := fun x : Meets (fun w' => Below xr18.heap.size xr18 w') => cell_below x.property a4
      simp only [pick, pickN, List.filterMap_cons, List.filterMap_nil, List.getElem?_cons_zero, List.getElem?_cons_succ, Option.map_some]
      repeat (change wpQuiet _ _ _ _ (_ :: _) _; go_big_quiet_step (fail))
      refine wpQuiet_nil ?_
      clear n0 n1 n2 n3 n4 hne
      refine wpSeqK_step (fun K hK => ?_)
      go_simp
      refine (Back_law _ O _ (Hto.out.below Acc0.out) (by have := HQ.out; omega)).mono ?_
      rintro e wq1 ⟨B1, k1, rfl, hbk1, hq1⟩
      have Acc1 := Lib.hid (Acc0.out.trans (hq1.mono Acc0.out.size))
      rw [HQ.out] at hbk1 ⊢
      refine hK.out _ _ (fun _ => Acc1.out) ?_
      clear hK K hq1
      refine wpSeqK_step (fun K hK => ?_)
      go_simp
      refine (AreTickets_ref t a b c _ _ l O _ Ht.out (Hv.out.below (HB19.out.trans (Acc1.out.mono HB19.out.size))) hbk1 Hk2.out ⟨by have := HN.out; omega, by have := HQ.out; omega⟩).mono ?_
      rintro e wq2 ⟨rfl, hq2⟩
      have Acc2 := Lib.hid (Acc1.out.trans (hq2.mono Acc1.out.size))
      rw [Ho1.out]
      clear hbk1
      refine hK.out _ _ (fun _ => Acc2.out) ?_
      clear hK K hq2
      refine wpSeqK_nil ?_
      refine wpPh_cons Acc2.out (fun hne => ?_)
      have n0 := fun x : Meets (fun w' => Below xr18.heap.size xr18 w') => cell_below x.property a0
      have n1 := fun x : Meets (fun w' => Below xr18.heap.size xr18 w') => cell_below x.property a1
      have n2 := fun x : Meets (fun w' => Below xr18.heap.size xr18 w') => cell_below x.property a2
      have n3 := fun x : Meets (fun w' => Below xr18.heap.size xr18 w') => cell_below x.property a3
      have n4 := fun x : Meets (fun w' => Below xr18.heap.size xr18 w') => cell_below x.property a4
      simp only [pick, pickN, List.filterMap_cons, List.filterMap_nil, List.getElem?_cons_zero, List.getElem?_cons_succ, Option.map_some]
      repeat (change wpQuiet _ _ _ _ (_ :: _) _; go_big_quiet_step (fail))
      refine wpQuiet_nil ?_
      clear n0 n1 n2 n3 n4 hne
      refine wpSeqK_step (fun K hK => ?_)
      go_simp
      refine (Back_law _ O _ (Hto.out.below Acc2.out) (by have := HQ.out; omega)).mono ?_
      rintro e wq3 ⟨B2, k2, rfl, hbk2, hq3⟩
      have Acc3 := Lib.hid (Acc2.out.trans (hq3.mono Acc2.out.size))
      rw [HQ.out] at hbk2 ⊢
      refine hK.out _ _ (fun _ => Acc3.out) ?_
      clear hK K hq3
      refine wpSeqK_step (fun K hK => ?_)
      go_simp
      refine (Sum_ref t a b c _ O _ Ht.out (HT.out.below (HB19.out.trans (Acc3.out.mono HB19.out.size))) hbk2 Hal.out (by have := HQ.out; omega)).mono ?_
      rintro e wq4 ⟨rfl, hq4⟩
      have Acc4 := Lib.hid (Acc3.out.trans (hq4.mono Acc3.out.size))
      rw [Ho2.out]
      clear hbk2
      refine hK.out _ _ (fun _ => Acc4.out) ?_
      clear hK K hq4
      refine wpSeqK_nil ?_
      refine wpPh_cons Acc4.out (fun hne => ?_)
      have n0 := fun x : Meets (fun w' => Below xr18.heap.size xr18 w') => cell_below x.property a0
      have n1 := fun x : Meets (fun w' => Below xr18.heap.size xr18 w') => cell_below x.property a1
      have n2 := fun x : Meets (fun w' => Below xr18.heap.size xr18 w') => cell_below x.property a2
      have n3 := fun x : Meets (fun w' => Below xr18.heap.size xr18 w') => cell_below x.property a3
      have n4 := fun x : Meets (fun w' => Below xr18.heap.size xr18 w') => cell_below x.property a4
      simp only [pick, pickN, List.filterMap_cons, List.filterMap_nil, List.getElem?_cons_zero, List.getElem?_cons_succ, Option.map_some]
      repeat (change wpQuiet _ _ _ _ (_ :: _) _; go_big_quiet_step (fail))
      refine wpQuiet_nil ?_
      clear n0 n1 n2 n3 n4 hne
      refine wpSeqK_step (fun K hK => ?_)
      go_simp
      refine (Once_ref _ l _ (Hv.out.below (HB19.out.trans (Acc4.out.mono HB19.out.size))) (by have := HN.out; omega)).mono ?_
      rintro e wq5 ⟨B3, k3, rfl, hbk3, hq5⟩
      have Acc5 := Lib.hid (Acc4.out.trans (hq5.mono Acc4.out.size))
      rw [HU.out] at hbk3 ⊢
      refine hK.out _ _ (fun _ => Acc5.out) ?_
      clear hK K hq5
      refine wpSeqK_step (fun K hK => ?_)
      go_simp
      refine (Charge_ref t Ht.out (uniqL l) Hall.out [] a b c _ _ _ (HT.out.below (HB19.out.trans (Acc5.out.mono HB19.out.size))) hbk3 (GsAt.nil _ none 0 (by simp [maxLen])) (fit_nil (by have := HU.out; omega))).mono ?_
      rintro e wq6 ⟨rfl, hq6⟩
      have Acc6 := Lib.hid (Acc5.out.trans (hq6.mono Acc5.out.size))
      rw [Hcr.out]
      clear hbk3
      refine hK.out _ _ (fun _ => Acc6.out) ?_
      clear hK K hq6
      refine wpSeqK_nil ?_
      refine wpPh_cons Acc6.out (fun hne => ?_)
      have n0 := fun x : Meets (fun w' => Below xr18.heap.size xr18 w') => cell_below x.property a0
      have n1 := fun x : Meets (fun w' => Below xr18.heap.size xr18 w') => cell_below x.property a1
      have n2 := fun x : Meets (fun w' => Below xr18.heap.size xr18 w') => cell_below x.property a2
      have n3 := fun x : Meets (fun w' => Below xr18.heap.size xr18 w') => cell_below x.property a3
      have n4 := fun x : Meets (fun w' => Below xr18.heap.size xr18 w') => cell_below x.property a4
      simp only [pick, pickN, List.filterMap_cons, List.filterMap_nil, List.getElem?_cons_zero, List.getElem?_cons_succ, Option.map_some]
      repeat (change wpQuiet _ _ _ _ (_ :: _) _; go_big_quiet_step (fail))
      refine wpQuiet_nil ?_
      clear n0 n1 n2 n3 n4 hne
      refine wpSeqK_step (fun K hK => ?_)
      go_simp
      refine (awake_any _).mono ?_
      rintro e wq7 ⟨rfl, hq7⟩
      have Acc7 := Lib.hid (Acc6.out.trans (hq7.mono Acc6.out.size))
      refine hK.out _ _ (fun _ => Acc7.out) ?_
      clear hK K hq7
      refine wpSeqK_nil ?_
      refine wpPh_cons Acc7.out (fun hne => ?_)
      have n0 := fun x : Meets (fun w' => Below xr18.heap.size xr18 w') => cell_below x.property a0
      have n1 := fun x : Meets (fun w' => Below xr18.heap.size xr18 w') => cell_below x.property a1
      have n2 := fun x : Meets (fun w' => Below xr18.heap.size xr18 w') => cell_below x.property a2
      have n3 := fun x : Meets (fun w' => Below xr18.heap.size xr18 w') => cell_below x.property a3
      have n4 := fun x : Meets (fun w' => Below xr18.heap.size xr18 w') => cell_below x.property a4
      simp only [pick, pickN, List.filterMap_cons, List.filterMap_nil, List.getElem?_cons_zero, List.getElem?_cons_succ, Option.map_some]
      repeat (change wpQuiet _ _ _ _ (_ :: _) _; go_big_quiet_step (fail))
      refine wpQuiet_nil ?_
      clear n0 n1 n2 n3 n4 hne
      refine wpSeqK_nil ?_
      refine wpPh_nil ?_
      refine NoPanic.normal ?_
      clear a0 a1 a2 a3 a4
      go_wp2
      go_ret
      exact ⟨rfl, HB19.out.trans (Acc7.out.mono HB19.out.size)⟩
    · have e0 : (F == 0) = false := by simpa using h0
      have aq := box_cells HX5.out
      have a0 := aq 0
      have a1 := aq 1
      have a2 := aq 2
      have a3 := aq 3
      have a4 := aq 4
      simp only [List.getElem?_toArray, List.getElem?_cons_zero, List.getElem?_cons_succ] at a0 a1 a2 a3 a4
      clear aq
      go_wp2_with fail
      refine (Tariff_law t a b c _ (HT.out.below HB5.out) Hth.out).mono ?_
      rintro e xa20 ⟨pa20, pb20, pc20, rfl, hT20, hxa20⟩
      clear a0 a1 a2 a3 a4
      have HB21 := Lib.hid (HB5.out.trans (hxa20.mono HB5.out.size))
      have HX21 := Lib.hid ((hxa20.block _ (Array.getElem?_eq_some_iff.1 HX5.out).1).trans HX5.out)
      go_wp2_with fail
      refine (CheckTariff_any t pa20 pb20 pc20 _ hT20).mono ?_
      rintro e xd20 ⟨rfl, hxd20⟩
      obtain ⟨FT, hFT⟩ : ∃ F, faultT t = F := ⟨_, rfl⟩
      rw [hFT]
      have HFT := Lib.hid hFT
      clear hFT hT20
      have HB22 := Lib.hid (HB21.out.trans (hxd20.mono HB21.out.size))
      have HX22 := Lib.hid ((hxd20.block _ (Array.getElem?_eq_some_iff.1 HX21.out).1).trans HX21.out)
      have aq := box_cells HX22.out
      have a0 := aq 0
      have a1 := aq 1
      have a2 := aq 2
      have a3 := aq 3
      have a4 := aq 4
      simp only [List.getElem?_toArray, List.getElem?_cons_zero, List.getElem?_cons_succ] at a0 a1 a2 a3 a4
      clear aq
      go_wp2_with fail
      refine (Tariff_law t a b c _ (HT.out.below HB22.out) Hth.out).mono ?_
      rintro e xa23 ⟨pa23, pb23, pc23, rfl, hT23, hxa23⟩
      clear a0 a1 a2 a3 a4
      have HB24 := Lib.hid (HB22.out.trans (hxa23.mono HB22.out.size))
      have HX24 := Lib.hid ((hxa23.block _ (Array.getElem?_eq_some_iff.1 HX22.out).1).trans HX22.out)
      go_wp2_with fail
      refine (Rides_law _ l _ (Hv.out.below HB24.out) (by have := HN.out; omega)).mono ?_
      rintro e xb23 ⟨pA23, pk23, rfl, hr23, hxb23⟩
      have hT23 := hT23.below hxb23
      have HB25 := Lib.hid (HB24.out.trans (hxb23.mono HB24.out.size))
      have HX25 := Lib.hid ((hxb23.block _ (Array.getElem?_eq_some_iff.1 HX24.out).1).trans HX24.out)
      go_wp2_with fail
      refine (Tickets_any t pa23 pb23 pc23 _ l _ hT23 hr23 (by have := HN.out; omega)).mono ?_
      rintro e xc ⟨hxc, hbad, _⟩
      obtain rfl := hbad (by rw [HF.out]; exact h0)
      rw [HF.out]
      clear hbad hT23 hr23
      have HB26 := Lib.hid (HB25.out.trans (hxc.mono HB25.out.size))
      have HX26 := Lib.hid ((hxc.block _ (Array.getElem?_eq_some_iff.1 HX25.out).1).trans HX25.out)
      clear hxc
      have aq := box_cells HX26.out
      have a0 := aq 0
      have a1 := aq 1
      have a2 := aq 2
      have a3 := aq 3
      have a4 := aq 4
      simp only [List.getElem?_toArray, List.getElem?_cons_zero, List.getElem?_cons_succ] at a0 a1 a2 a3 a4
      clear aq
      go_wp2_with fail
      refine (fault_law t a b c _ (HT.out.below HB26.out)).mono ?_
      rintro e xf27 ⟨rfl, hxf27⟩
      rw [HFT.out]
      clear a0 a1 a2 a3 a4
      have HB28 := Lib.hid (HB26.out.trans (hxf27.mono HB26.out.size))
      have HX28 := Lib.hid ((hxf27.block _ (Array.getElem?_eq_some_iff.1 HX26.out).1).trans HX26.out)
      have aq := box_cells HX28.out
      have a0 := aq 0
      have a1 := aq 1
      have a2 := aq 2
      have a3 := aq 3
      have a4 := aq 4
      simp only [List.getElem?_toArray, List.getElem?_cons_zero, List.getElem?_cons_succ] at a0 a1 a2 a3 a4
      clear aq
      go_wp2_with fail
      refine (rides_law t a b c _ l _ (HT.out.below HB28.out) (Hv.out.below HB28.out) (by have := HN.out; omega)).mono ?_
      rintro e xr29 ⟨rfl, hxr29⟩
      clear a0 a1 a2 a3 a4
      have HB30 := Lib.hid (HB28.out.trans (hxr29.mono HB28.out.size))
      have HX30 := Lib.hid ((hxr29.block _ (Array.getElem?_eq_some_iff.1 HX28.out).1).trans HX28.out)
      clear hxr29
      rw [HF.out]
      have e1 : (F != 0) = true := by simpa using h0
      go_wp2_with fail
      refine (awake_any _).mono ?_
      rintro e wz31 ⟨rfl, hbz31⟩
      go_wp2
      go_ret
      exact ⟨rfl, HB30.out.trans (hbz31.mono HB30.out.size)⟩
end Go.Proofs.Ytmbkpfkkohpnkaa
