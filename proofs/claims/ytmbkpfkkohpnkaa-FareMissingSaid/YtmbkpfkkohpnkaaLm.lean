import Derived.Test.YtmbkpfkkohpnkaaRs
set_option linter.unusedVariables false
set_option linter.unusedSimpArgs false
namespace Go.Proofs.Ytmbkpfkkohpnkaa
open Go Go.Proofs Go.RowKit

set_option maxRecDepth 100000 in
set_option maxHeartbeats 4000000 in
theorem FMissing_law (t : Tar) (a b c v z : Value) (l : List Tp) (cs : List Int) (w : World) (hT : TarAt w a b c t) (hv : TpsAt w v l) (hc : NumsAt .i64 w z cs) :
    Calls Try.prog 4 #[.agg #[.int .i64 t.zones, a, b, c, .int .i64 t.window], v, z] w (Gives w (.bool true)) := by
  obtain ⟨Av, cv, rfl, _, _⟩ := hv.form
  obtain ⟨Az, cz, rfl, _, _⟩ := hc.form
  obtain ⟨N, hN⟩ : ∃ N, l.length = N := ⟨_, rfl⟩
  obtain ⟨M, hM⟩ : ∃ M, cs.length = M := ⟨_, rfl⟩
  rw [hN] at hv ⊢
  rw [hM] at hc ⊢
  have HN := Lib.hid hN
  have HM := Lib.hid hM
  have HT := Lib.hid hT
  have Hv := Lib.hid hv
  have Hc := Lib.hid hc
  clear hT hv hc hN hM
  go_enter Try.func4, Try.ntmps4
  go_upto_region 1 with (fail)
  refine wp_name (fun W => Below w.heap.size w W ∧ W.heap[w.heap.size]? = some (.cells #[.int .i64 t.zones, a, b, c, .int .i64 t.window] 24 (0, 0))) ⟨(Below.refl _ _).alloc (Nat.le_refl _) _, heap_alloc_new w _⟩ (fun W0 hW => ?_)
  obtain ⟨hb0, hx0⟩ := hW
  have HB0 := Lib.hid hb0
  have HX0 := Lib.hid hx0
  clear hb0 hx0
  have aq := box_cells HX0.out
  have a0 := aq 0
  have a1 := aq 1
  have a2 := aq 2
  have a3 := aq 3
  have a4 := aq 4
  simp only [List.getElem?_toArray, List.getElem?_cons_zero, List.getElem?_cons_succ] at a0 a1 a2 a3 a4
  clear aq
  go_wp2_with fail
  refine (Thin_any t a b c W0 (HT.out.below HB0.out)).mono ?_
  rintro e w1 ⟨rfl, hb1⟩
  clear a0 a1 a2 a3 a4
  have HB1 := Lib.hid (HB0.out.trans (hb1.mono HB0.out.size))
  have HX1 := Lib.hid ((hb1.block _ (Array.getElem?_eq_some_iff.1 HX0.out).1).trans HX0.out)
  clear hb1
  cases hth : thinB t with
  | false =>
    clear hth
    go_wp2_with fail
    refine (awake_any _).mono ?_
    rintro e wz2 ⟨rfl, hbz2⟩
    go_wp2
    go_ret
    exact ⟨rfl, HB1.out.trans (hbz2.mono HB1.out.size)⟩
  | true =>
    have Hth := Lib.hid hth
    clear hth
    by_cases h45 : 45 < N
    · have i45 : (45 : Int) < (N : Int) := by omega
      clear h45
      go_wp2_with fail
      refine (awake_any _).mono ?_
      rintro e wz3 ⟨rfl, hbz3⟩
      go_wp2
      go_ret
      exact ⟨rfl, HB1.out.trans (hbz3.mono HB1.out.size)⟩
    have i45 : ¬ (45 : Int) < (N : Int) := by omega
    have hN45 : N ≤ 45 := by omega
    clear h45
    by_cases h6 : 6 < M
    · have i6 : (6 : Int) < (M : Int) := by omega
      clear h6
      go_wp2_with fail
      refine (awake_any _).mono ?_
      rintro e wz4 ⟨rfl, hbz4⟩
      go_wp2
      go_ret
      exact ⟨rfl, HB1.out.trans (hbz4.mono HB1.out.size)⟩
    have i6 : ¬ (6 : Int) < (M : Int) := by omega
    have hM6 : M ≤ 6 := by omega
    clear h6
    have aq := box_cells HX1.out
    have a0 := aq 0
    have a1 := aq 1
    have a2 := aq 2
    have a3 := aq 3
    have a4 := aq 4
    simp only [List.getElem?_toArray, List.getElem?_cons_zero, List.getElem?_cons_succ] at a0 a1 a2 a3 a4
    clear aq
    go_wp2_with fail
    refine (Tariff_law t a b c _ (HT.out.below HB1.out) Hth.out).mono ?_
    rintro e xa5 ⟨pa5, pb5, pc5, rfl, hT5, hxa5⟩
    clear a0 a1 a2 a3 a4
    have HB6 := Lib.hid (HB1.out.trans (hxa5.mono HB1.out.size))
    have HX6 := Lib.hid ((hxa5.block _ (Array.getElem?_eq_some_iff.1 HX1.out).1).trans HX1.out)
    go_wp2_with fail
    refine (Taps_law _ l _ (Hv.out.below HB6.out) (by have := HN.out; omega)).mono ?_
    rintro e xb5 ⟨pA5, pk5, rfl, hr5, hxb5⟩
    have hT5 := hT5.below hxb5
    have HB7 := Lib.hid (HB6.out.trans (hxb5.mono HB6.out.size))
    have HX7 := Lib.hid ((hxb5.block _ (Array.getElem?_eq_some_iff.1 HX6.out).1).trans HX6.out)
    go_wp2_with fail
    refine (copy_any _ cs _ (Hc.out.below HB7.out) (by have := HM.out; omega)).mono ?_
    rintro e xd5 ⟨pB5, pq5, rfl, ho5, hxd5⟩
    have hT5 := hT5.below hxd5
    have hr5 := hr5.below hxd5
    have hz5 := nums_of_own ho5
    have HB8 := Lib.hid (HB7.out.trans (hxd5.mono HB7.out.size))
    have HX8 := Lib.hid ((hxd5.block _ (Array.getElem?_eq_some_iff.1 HX7.out).1).trans HX7.out)
    go_wp2_with fail
    refine (Missing_any t pa5 pb5 pc5 _ _ l cs _ hT5 hr5 hz5 (by have := HN.out; omega)).mono ?_
    rintro e xm ⟨hxm, hbad, hgood⟩
    have Hbad := Lib.hid hbad
    have Hgood := Lib.hid hgood
    clear hbad hgood hT5 hr5 hz5 ho5
    have HB9 := Lib.hid (HB8.out.trans (hxm.mono HB8.out.size))
    have HX9 := Lib.hid ((hxm.block _ (Array.getElem?_eq_some_iff.1 HX8.out).1).trans HX8.out)
    clear hxm
    obtain ⟨F, hF⟩ : ∃ F, tapsF t l cs = F := ⟨_, rfl⟩
    have hFw := tapsF_wrap t l cs
    rw [hF] at hFw
    have HF := Lib.hid hF
    clear hF
    have hbg : ∃ e', e = e' := ⟨_, rfl⟩
    clear hbg
    by_cases h0 : F = 0
    rotate_left
    · have hbb := Hbad.out (by rw [HF.out]; exact h0)
      rw [HF.out] at hbb
      subst hbb
      have hd : (F != 0) = true := by simpa using h0
      have hee : (F == F) = true := by simp
      clear h0 Hbad Hgood
      have aq := box_cells HX9.out
      have a0 := aq 0
      have a1 := aq 1
      have a2 := aq 2
      have a3 := aq 3
      have a4 := aq 4
      simp only [List.getElem?_toArray, List.getElem?_cons_zero, List.getElem?_cons_succ] at a0 a1 a2 a3 a4
      clear aq
      go_wp2_with fail
      refine (taps_law t a b c _ _ l cs _ (HT.out.below HB9.out) (Hv.out.below HB9.out) (Hc.out.below HB9.out) (by have := HN.out; omega)).mono ?_
      rintro e xw ⟨rfl, hxw⟩
      rw [HF.out]
      clear a0 a1 a2 a3 a4
      have HB10 := Lib.hid (HB9.out.trans (hxw.mono HB9.out.size))
      have HX10 := Lib.hid ((hxw.block _ (Array.getElem?_eq_some_iff.1 HX9.out).1).trans HX9.out)
      clear hxw
      go_wp2_with fail
      refine (awake_any _).mono ?_
      rintro e wz11 ⟨rfl, hbz11⟩
      go_wp2
      go_ret
      exact ⟨rfl, HB10.out.trans (hbz11.mono HB10.out.size)⟩
    obtain ⟨Am, km, rfl, hrm⟩ := Hgood.out (by rw [HF.out]; exact h0)
    have hok := tapsF_ok.1 (HF.out.trans h0)
    have hM4 : M = 4 := HM.out.symm.trans hok.four
    have hml : (missLL l cs).length = 4 := by simp [missLL, hok.four]
    have Hok := Lib.hid hok
    rw [hml] at hrm ⊢
    have Hml := Lib.hid hml
    have Hrm := Lib.hid hrm
    have HM4 := Lib.hid hM4
    subst h0
    clear hok hml hrm hM4 Hbad Hgood
    have aq := box_cells HX9.out
    have a0 := aq 0
    have a1 := aq 1
    have a2 := aq 2
    have a3 := aq 3
    have a4 := aq 4
    simp only [List.getElem?_toArray, List.getElem?_cons_zero, List.getElem?_cons_succ] at a0 a1 a2 a3 a4
    clear aq
    go_wp2_with fail
    refine (taps_law t a b c _ _ l cs _ (HT.out.below HB9.out) (Hv.out.below HB9.out) (Hc.out.below HB9.out) (by have := HN.out; omega)).mono ?_
    rintro e xw ⟨rfl, hxw⟩
    rw [HF.out]
    clear a0 a1 a2 a3 a4
    have HB12 := Lib.hid (HB9.out.trans (hxw.mono HB9.out.size))
    have HX12 := Lib.hid ((hxw.block _ (Array.getElem?_eq_some_iff.1 HX9.out).1).trans HX9.out)
    have Hrm := Lib.hid (Hrm.out.below hxw)
    clear hxw
    obtain ⟨W2, hW2⟩ : ∃ W2, xw = W2 := ⟨_, rfl⟩
    rw [hW2] at HB12 HX12 Hrm ⊢
    clear hW2
    go_wp2
    go_loopw [10] (fun s wr => ∃ k : Nat, k ≤ 4 ∧ s = .int .i64 k ∧ Below W2.heap.size W2 wr) (fun s wr => 4 - (intOf s).toNat)
    case atStart => exact ⟨0, by omega, rfl, Below.refl _ _⟩
    case round =>
      obtain ⟨k, hk, rfl, hbr⟩ := hrel
      have Hbr := Lib.hid hbr
      by_cases hlt : k < 4
      · obtain ⟨bm, om, row, u, rfl, hrow, du, hnu, _⟩ := (Hrm.out.below hbr).at_ (n := 4) (k := k) (by have := Hml.out; omega)
        obtain ⟨bz, oz, x, rfl, hx, dx, _⟩ := ((Hc.out.below HB12.out).below hbr).at_ (n := M) (k := k) (by have := HM.out; have := HM4.out; omega)
        have ik : (k : Int) < 4 := by omega
        have ikM : (k : Int) < (M : Int) := by have := HM4.out; omega
        have hcx : cntAt cs (k : Int) = x := by unfold cntAt; rw [Int.toNat_natCast, hx]; rfl
        have hxb := Hok.out.cnt x (List.mem_of_getElem? hx)
        obtain ⟨xn, hxn⟩ : ∃ xn : Nat, x = (xn : Int) := ⟨x.toNat, by omega⟩
        have hrw : row = missL l (k : Int) (xn : Int) := by
          have h1 : (missLL l cs)[k]? = some (missL l (k : Int) (cntAt cs k)) := by
            unfold missLL
            rw [List.getElem?_map, List.getElem?_range (by have := HM.out; have := HM4.out; omega)]
            rfl
          rw [h1] at hrow
          injection hrow with hrow
          rw [← hrow, hcx, hxn]
        subst hxn
        have Hrw := Lib.hid hrw
        have hnl : row.length ≤ 50 := by rw [hrw, missL_eq]; have := missK_len l (k : Int) ((xn : Int)).toNat; omega
        obtain ⟨Au, cu, rfl, _, _⟩ := hnu.form
        have Hnu := Lib.hid hnu
        have hd : Below wr.heap.size wr wr.drew := (Below.refl _ _).drew
        have Hnl := Lib.hid hnl
        obtain ⟨rn, hrn⟩ : ∃ rn, row.length = rn := ⟨_, rfl⟩
        rw [hrn] at du Hnu
        clear hrow hx hcx hrw hnu hnl hrn
        go_upto_region 12 with (fail)
        refine wp_region_noPanic ?_
        refine wp_region_pick [0, 1, 2, 3, 4, 5, 6, 7, 8, 9] [10, 11, 12] (fun _ => true) (fun w' => Below wr.heap.size wr w') (by kernel_rfl) (by kernel_rfl) (fun _ _ _ _ _ h => h) hd (fun hne => ?_)
        have n0 := fun y : Meets (fun w' => Below wr.heap.size wr w') => cell_below y.property du
        have n1 := fun y : Meets (fun w' => Below wr.heap.size wr w') => cell_below y.property dx
        simp only [pick, pickN, List.filterMap_cons, List.filterMap_nil, List.getElem?_cons_zero, List.getElem?_cons_succ, Option.map_some]
        repeat (change wpQuiet _ _ _ _ (_ :: _) _; go_big_quiet_step (fail))
        refine wpQuiet_nil ?_
        clear n0 n1 hne du dx
        refine wpSeqP_step (fun K hK => ?_)
        go_simp
        refine (Missing_ref _ l (k : Int) xn _ ((Hv.out.below HB12.out).below (hbr.trans (hd.mono hbr.size))) (by have := HN.out; omega) (by omega)).mono ?_
        rintro e w5 ⟨A5, c5, rfl, ho5, hb5⟩
        have hb35 := hd.trans (hb5.mono hd.size)
        have hn5 := nums_of_own ho5
        rw [← Hrw.out] at hn5 ⊢
        refine hK.out _ _ (fun _ => hb35) ?_
        clear hK K
        refine wpSeqP_step (fun K hK => ?_)
        go_simp
        refine (ints_any _ _ row row _ (by have := Hnu.out.below hb35; exact this) hn5 ⟨by have := Hnl.out; omega, by have := Hnl.out; omega⟩).mono ?_
        rintro e w6 ⟨rfl, hb6⟩
        have hb36 := hb35.trans (hb6.mono hb35.size)
        rw [decide_eq_true (rfl : row = row)]
        refine hK.out _ _ (fun _ => hb36) ?_
        clear hK K
        refine wpSeqP_step (fun K hK => ?_)
        go_simp
        refine hK.out _ _ (fun _ => hb36) ?_
        clear hK K
        refine wpSeqP_nil ?_
        refine NoPanic.normal ?_
        have Hb36 := Lib.hid hb36
        clear hb36 hb35 hb6 hb5 ho5 hn5 hd hbr
        go_wp2
        go_roundw
        case rel => exact ⟨k + 1, by omega, by go_num, Hbr.out.trans (Hb36.out.mono Hbr.out.size)⟩
        case measure => simp [intOf]; omega
      · have ik : ¬ (k : Int) < 4 := by omega
        clear hbr
        have HB13 := Lib.hid (HB12.out.trans (Hbr.out.mono HB12.out.size))
        have HX13 := Lib.hid ((Hbr.out.block _ (Array.getElem?_eq_some_iff.1 HX12.out).1).trans HX12.out)
        go_wp2_with fail
        refine (awake_any _).mono ?_
        rintro e wz14 ⟨rfl, hbz14⟩
        go_wp2
        go_ret
        exact ⟨rfl, HB13.out.trans (hbz14.mono HB13.out.size)⟩
end Go.Proofs.Ytmbkpfkkohpnkaa
