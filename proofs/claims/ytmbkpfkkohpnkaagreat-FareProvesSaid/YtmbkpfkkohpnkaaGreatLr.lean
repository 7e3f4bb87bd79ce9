import Derived.Test.YtmbkpfkkohpnkaaGreatTb
import Derived.Test.YtmbkpfkkohpnkaaGreatTc
set_option linter.unusedVariables false
set_option linter.unusedSimpArgs false
namespace Go.Proofs.YtmbkpfkkohpnkaaGreat
open Go Go.Proofs Go.RowKit

set_option maxRecDepth 100000 in
set_option maxHeartbeats 4000000 in
theorem Proves_law (t : Tar) (a b c v z : Value) (l : List Rd) (X : List Tk) (p : Int) (w : World) (hT : TarAt w a b c t) (hv : RdsAt w v l) (hz : TksAt w z X) (hk : ∀ x ∈ X, x.kind < 256) :
    Calls Tryz.prog 3 #[.agg #[.int .i64 t.zones, a, b, c, .int .i64 t.window], v, z, .int .i64 p] w (Gives w (.bool true)) := by
  obtain ⟨Av, cv, rfl, _, _⟩ := hv.form
  obtain ⟨Az, cz, rfl, _, _⟩ := hz.form
  obtain ⟨N, hN⟩ : ∃ N, l.length = N := ⟨_, rfl⟩
  obtain ⟨M, hM⟩ : ∃ M, X.length = M := ⟨_, rfl⟩
  rw [hN] at hv ⊢
  rw [hM] at hz ⊢
  have HN := Lib.hid hN
  have HM := Lib.hid hM
  have HT := Lib.hid hT
  have Hv := Lib.hid hv
  have Hz := Lib.hid hz
  have Hk := Lib.hid hk
  clear hT hv hz hN hM hk
  go_enter Tryz.func3, Tryz.ntmps3
  go_upto_region 1 with (fail)
  refine wp_name (fun W => Below w.heap.size w W ∧ W.heap[w.heap.size]? = some (.cells #[.int .i64 t.zones, a, b, c, .int .i64 t.window] 24 (0, 0))) ⟨(Below.refl _ _).alloc (Nat.le_refl _) _, heap_alloc_new w _⟩ (fun W0 hW => ?_)
  obtain ⟨hb0, hx0⟩ := hW
  have HB0 := Lib.hid hb0
  have HX0 := Lib.hid hx0
  clear hb0 hx0
  have aq := box_cells HX0.out
  have a0 := aq 0
  have a1 := aq 1
  have a2 := aq 2
  have a3 := aq 3
  have a4 := aq 4
  simp only [List.getElem?_toArray, List.getElem?_cons_zero, List.getElem?_cons_succ] at a0 a1 a2 a3 a4
  clear aq
  go_wp2_with fail
  refine (Thin_any t a b c W0 (HT.out.below HB0.out)).mono ?_
  rintro e w1 ⟨rfl, hb1⟩
  clear a0 a1 a2 a3 a4
  have HB1 := Lib.hid (HB0.out.trans (hb1.mono HB0.out.size))
  have HX1 := Lib.hid ((hb1.block _ (Array.getElem?_eq_some_iff.1 HX0.out).1).trans HX0.out)
  clear hb1
  cases hth : thinB t with
  | false =>
    clear hth
    go_wp2_with fail
    refine (awake_any _).mono ?_
    rintro e wz2 ⟨rfl, hbz2⟩
    go_wp2
    go_ret
    exact ⟨rfl, HB1.out.trans (hbz2.mono HB1.out.size)⟩
  | true =>
    have Hth := Lib.hid hth
    clear hth
    by_cases h15 : 15 < N
    · have i15 : (15 : Int) < (N : Int) := by omega
      clear h15
      go_wp2_with fail
      refine (awake_any _).mono ?_
      rintro e wz3 ⟨rfl, hbz3⟩
      go_wp2
      go_ret
      exact ⟨rfl, HB1.out.trans (hbz3.mono HB1.out.size)⟩
    have i15 : ¬ (15 : Int) < (N : Int) := by omega
    have hN15 : N ≤ 15 := by omega
    clear h15
    by_cases h35 : 35 < M
    · have i35 : (35 : Int) < (M : Int) := by omega
      clear h35
      go_wp2_with fail
      refine (awake_any _).mono ?_
      rintro e wz4 ⟨rfl, hbz4⟩
      go_wp2
      go_ret
      exact ⟨rfl, HB1.out.trans (hbz4.mono HB1.out.size)⟩
    have i35 : ¬ (35 : Int) < (M : Int) := by omega
    have hM35 : M ≤ 35 := by omega
    clear h35
    have aq := box_cells HX1.out
    have a0 := aq 0
    have a1 := aq 1
    have a2 := aq 2
    have a3 := aq 3
    have a4 := aq 4
    simp only [List.getElem?_toArray, List.getElem?_cons_zero, List.getElem?_cons_succ] at a0 a1 a2 a3 a4
    clear aq
    go_wp2_with fail
    refine (rides_law t a b c _ l _ (HT.out.below HB1.out) (Hv.out.below HB1.out) (by have := HN.out; omega)).mono ?_
    rintro e w2 ⟨rfl, hb2⟩
    clear a0 a1 a2 a3 a4
    have HB5 := Lib.hid (HB1.out.trans (hb2.mono HB1.out.size))
    have HX5 := Lib.hid ((hb2.block _ (Array.getElem?_eq_some_iff.1 HX1.out).1).trans HX1.out)
    clear hb2 i15 i35
    obtain ⟨F, hF⟩ : ∃ F, ridesF t l = F := ⟨_, rfl⟩
    rw [hF]
    have HF := Lib.hid hF
    clear hF
    by_cases h0 : F = 0
    rotate_left
    · have hd : (F == 0) = false := by simpa using h0
      have Hp := Lib.hid (show proveB t l X p = false by unfold proveB; rw [HF.out, decide_eq_false h0]; rfl)
      clear h0
      have aq := box_cells HX5.out
      have a0 := aq 0
      have a1 := aq 1
      have a2 := aq 2
      have a3 := aq 3
      have a4 := aq 4
      simp only [List.getElem?_toArray, List.getElem?_cons_zero, List.getElem?_cons_succ] at a0 a1 a2 a3 a4
      clear aq
      go_wp2_with fail
      refine (Tariff_law t a b c _ (HT.out.below HB5.out) Hth.out).mono ?_
      rintro e xa6 ⟨pa6, pb6, pc6, rfl, hT6, hxa6⟩
      clear a0 a1 a2 a3 a4
      have HB7 := Lib.hid (HB5.out.trans (hxa6.mono HB5.out.size))
      have HX7 := Lib.hid ((hxa6.block _ (Array.getElem?_eq_some_iff.1 HX5.out).1).trans HX5.out)
      go_wp2_with fail
      refine (Rides_law _ l _ (Hv.out.below HB7.out) (by have := HN.out; omega)).mono ?_
      rintro e xb6 ⟨pA6, pk6, rfl, hr6, hxb6⟩
      have hT6 := hT6.below hxb6
      have HB8 := Lib.hid (HB7.out.trans (hxb6.mono HB7.out.size))
      have HX8 := Lib.hid ((hxb6.block _ (Array.getElem?_eq_some_iff.1 HX7.out).1).trans HX7.out)
      go_wp2_with fail
      refine (Tickets_law _ X _ (Hz.out.below HB8.out) (by have := HM.out; omega)).mono ?_
      rintro e xc6 ⟨pB6, pq6, rfl, hz6, hxc6⟩
      have hT6 := hT6.below hxc6
      have hr6 := hr6.below hxc6
      have HB9 := Lib.hid (HB8.out.trans (hxc6.mono HB8.out.size))
      have HX9 := Lib.hid ((hxc6.block _ (Array.getElem?_eq_some_iff.1 HX8.out).1).trans HX8.out)
      go_wp2_with fail
      refine (ProveTickets_any t pa6 pb6 pc6 _ _ l X p _ hT6 hr6 hz6 Hk.out (by have := HN.out; omega)).mono ?_
      rintro e xd6 ⟨rfl, hxd6⟩
      rw [Hp.out]
      have HB10 := Lib.hid (HB9.out.trans (hxd6.mono HB9.out.size))
      have HX10 := Lib.hid ((hxd6.block _ (Array.getElem?_eq_some_iff.1 HX9.out).1).trans HX9.out)
      go_wp2_with fail
      refine (awake_any _).mono ?_
      rintro e wz11 ⟨rfl, hbz11⟩
      go_wp2
      go_ret
      exact ⟨rfl, HB10.out.trans (hbz11.mono HB10.out.size)⟩
    subst h0
    obtain ⟨ht, _, _⟩ := ridesF_all HF.out
    have Ht := Lib.hid ht
    clear ht
    by_cases h30 : M ≤ 30
    rotate_left
    · have i30 : ¬ (M : Int) ≤ 30 := by omega
      have Hp := Lib.hid (show proveB t l X p = false by unfold proveB; rw [HM.out, decide_eq_false h30]; simp)
      clear h30
      have aq := box_cells HX5.out
      have a0 := aq 0
      have a1 := aq 1
      have a2 := aq 2
      have a3 := aq 3
      have a4 := aq 4
      simp only [List.getElem?_toArray, List.getElem?_cons_zero, List.getElem?_cons_succ] at a0 a1 a2 a3 a4
      clear aq
      go_wp2_with fail
      refine (Tariff_law t a b c _ (HT.out.below HB5.out) Hth.out).mono ?_
      rintro e xa12 ⟨pa12, pb12, pc12, rfl, hT12, hxa12⟩
      clear a0 a1 a2 a3 a4
      have HB13 := Lib.hid (HB5.out.trans (hxa12.mono HB5.out.size))
      have HX13 := Lib.hid ((hxa12.block _ (Array.getElem?_eq_some_iff.1 HX5.out).1).trans HX5.out)
      go_wp2_with fail
      refine (Rides_law _ l _ (Hv.out.below HB13.out) (by have := HN.out; omega)).mono ?_
      rintro e xb12 ⟨pA12, pk12, rfl, hr12, hxb12⟩
      have hT12 := hT12.below hxb12
      have HB14 := Lib.hid (HB13.out.trans (hxb12.mono HB13.out.size))
      have HX14 := Lib.hid ((hxb12.block _ (Array.getElem?_eq_some_iff.1 HX13.out).1).trans HX13.out)
      go_wp2_with fail
      refine (Tickets_law _ X _ (Hz.out.below HB14.out) (by have := HM.out; omega)).mono ?_
      rintro e xc12 ⟨pB12, pq12, rfl, hz12, hxc12⟩
      have hT12 := hT12.below hxc12
      have hr12 := hr12.below hxc12
      have HB15 := Lib.hid (HB14.out.trans (hxc12.mono HB14.out.size))
      have HX15 := Lib.hid ((hxc12.block _ (Array.getElem?_eq_some_iff.1 HX14.out).1).trans HX14.out)
      go_wp2_with fail
      refine (ProveTickets_any t pa12 pb12 pc12 _ _ l X p _ hT12 hr12 hz12 Hk.out (by have := HN.out; omega)).mono ?_
      rintro e xd12 ⟨rfl, hxd12⟩
      rw [Hp.out]
      have HB16 := Lib.hid (HB15.out.trans (hxd12.mono HB15.out.size))
      have HX16 := Lib.hid ((hxd12.block _ (Array.getElem?_eq_some_iff.1 HX15.out).1).trans HX15.out)
      go_wp2_with fail
      refine (awake_any _).mono ?_
      rintro e wz17 ⟨rfl, hbz17⟩
      go_wp2
      go_ret
      exact ⟨rfl, HB16.out.trans (hbz17.mono HB16.out.size)⟩
    have i30 : (M : Int) ≤ 30 := by omega
    have aq := box_cells HX5.out
    have a0 := aq 0
    have a1 := aq 1
    have a2 := aq 2
    have a3 := aq 3
    have a4 := aq 4
    simp only [List.getElem?_toArray, List.getElem?_cons_zero, List.getElem?_cons_succ] at a0 a1 a2 a3 a4
    clear aq
    go_wp2_with fail
    refine (AreTickets_ref t a b c _ _ l X _ Ht.out (Hv.out.below HB5.out) (Hz.out.below HB5.out) Hk.out ⟨by have := HN.out; omega, by have := HM.out; omega⟩).mono ?_
    rintro e w3 ⟨rfl, hb3⟩
    clear a0 a1 a2 a3 a4
    have HB18 := Lib.hid (HB5.out.trans (hb3.mono HB5.out.size))
    have HX18 := Lib.hid ((hb3.block _ (Array.getElem?_eq_some_iff.1 HX5.out).1).trans HX5.out)
    clear hb3
    cases har : areTk t l X with
    | false =>
      have Hp := Lib.hid (proveB_no (p := p) har)
      clear har
      have aq := box_cells HX18.out
      have a0 := aq 0
      have a1 := aq 1
      have a2 := aq 2
      have a3 := aq 3
      have a4 := aq 4
      simp only [List.getElem?_toArray, List.getElem?_cons_zero, List.getElem?_cons_succ] at a0 a1 a2 a3 a4
      clear aq
      go_wp2_with fail
      refine (Tariff_law t a b c _ (HT.out.below HB18.out) Hth.out).mono ?_
      rintro e xa19 ⟨pa19, pb19, pc19, rfl, hT19, hxa19⟩
      clear a0 a1 a2 a3 a4
      have HB20 := Lib.hid (HB18.out.trans (hxa19.mono HB18.out.size))
      have HX20 := Lib.hid ((hxa19.block _ (Array.getElem?_eq_some_iff.1 HX18.out).1).trans HX18.out)
      go_wp2_with fail
      refine (Rides_law _ l _ (Hv.out.below HB20.out) (by have := HN.out; omega)).mono ?_
      rintro e xb19 ⟨pA19, pk19, rfl, hr19, hxb19⟩
      have hT19 := hT19.below hxb19
      have HB21 := Lib.hid (HB20.out.trans (hxb19.mono HB20.out.size))
      have HX21 := Lib.hid ((hxb19.block _ (Array.getElem?_eq_some_iff.1 HX20.out).1).trans HX20.out)
      go_wp2_with fail
      refine (Tickets_law _ X _ (Hz.out.below HB21.out) (by have := HM.out; omega)).mono ?_
      rintro e xc19 ⟨pB19, pq19, rfl, hz19, hxc19⟩
      have hT19 := hT19.below hxc19
      have hr19 := hr19.below hxc19
      have HB22 := Lib.hid (HB21.out.trans (hxc19.mono HB21.out.size))
      have HX22 := Lib.hid ((hxc19.block _ (Array.getElem?_eq_some_iff.1 HX21.out).1).trans HX21.out)
      go_wp2_with fail
      refine (ProveTickets_any t pa19 pb19 pc19 _ _ l X p _ hT19 hr19 hz19 Hk.out (by have := HN.out; omega)).mono ?_
      rintro e xd19 ⟨rfl, hxd19⟩
      rw [Hp.out]
      have HB23 := Lib.hid (HB22.out.trans (hxd19.mono HB22.out.size))
      have HX23 := Lib.hid ((hxd19.block _ (Array.getElem?_eq_some_iff.1 HX22.out).1).trans HX22.out)
      go_wp2_with fail
      refine (awake_any _).mono ?_
      rintro e wz24 ⟨rfl, hbz24⟩
      go_wp2
      go_ret
      exact ⟨rfl, HB23.out.trans (hbz24.mono HB23.out.size)⟩
    | true =>
      have Har := Lib.hid har
      have Hal := Lib.hid (show ∀ x ∈ X, tkB t x = true from fun x hx => (((areTk_iff.1 har).1) x hx).1)
      clear har
      have aq := box_cells HX18.out
      have a0 := aq 0
      have a1 := aq 1
      have a2 := aq 2
      have a3 := aq 3
      have a4 := aq 4
      simp only [List.getElem?_toArray, List.getElem?_cons_zero, List.getElem?_cons_succ] at a0 a1 a2 a3 a4
      clear aq
      go_wp2_with fail
      refine (Sum_ref t a b c _ X _ Ht.out (HT.out.below HB18.out) (Hz.out.below HB18.out) Hal.out (by have := HM.out; omega)).mono ?_
      rintro e w4 ⟨rfl, hb4⟩
      clear a0 a1 a2 a3 a4
      have HB25 := Lib.hid (HB18.out.trans (hb4.mono HB18.out.size))
      have HX25 := Lib.hid ((hb4.block _ (Array.getElem?_eq_some_iff.1 HX18.out).1).trans HX18.out)
      clear hb4
      obtain ⟨sx, hsx⟩ : ∃ sx, sumT t X = sx := ⟨_, rfl⟩
      rw [hsx]
      have hq : proveB t l X p = decide (sx ≤ p) := by
        unfold proveB
        rw [HF.out, HM.out, Har.out, hsx, decide_eq_true h30]
        simp
      by_cases hsp : sx ≤ p
      · have Hp := Lib.hid (hq.trans (decide_eq_true hsp))
        clear hq hsx h30
        have aq := box_cells HX25.out
        have a0 := aq 0
        have a1 := aq 1
        have a2 := aq 2
        have a3 := aq 3
        have a4 := aq 4
        simp only [List.getElem?_toArray, List.getElem?_cons_zero, List.getElem?_cons_succ] at a0 a1 a2 a3 a4
        clear aq
        go_wp2_with fail
        refine (Tariff_law t a b c _ (HT.out.below HB25.out) Hth.out).mono ?_
        rintro e xa26 ⟨pa26, pb26, pc26, rfl, hT26, hxa26⟩
        clear a0 a1 a2 a3 a4
        have HB27 := Lib.hid (HB25.out.trans (hxa26.mono HB25.out.size))
        have HX27 := Lib.hid ((hxa26.block _ (Array.getElem?_eq_some_iff.1 HX25.out).1).trans HX25.out)
        go_wp2_with fail
        refine (Rides_law _ l _ (Hv.out.below HB27.out) (by have := HN.out; omega)).mono ?_
        rintro e xb26 ⟨pA26, pk26, rfl, hr26, hxb26⟩
        have hT26 := hT26.below hxb26
        have HB28 := Lib.hid (HB27.out.trans (hxb26.mono HB27.out.size))
        have HX28 := Lib.hid ((hxb26.block _ (Array.getElem?_eq_some_iff.1 HX27.out).1).trans HX27.out)
        go_wp2_with fail
        refine (Tickets_law _ X _ (Hz.out.below HB28.out) (by have := HM.out; omega)).mono ?_
        rintro e xc26 ⟨pB26, pq26, rfl, hz26, hxc26⟩
        have hT26 := hT26.below hxc26
        have hr26 := hr26.below hxc26
        have HB29 := Lib.hid (HB28.out.trans (hxc26.mono HB28.out.size))
        have HX29 := Lib.hid ((hxc26.block _ (Array.getElem?_eq_some_iff.1 HX28.out).1).trans HX28.out)
        go_wp2_with fail
        refine (ProveTickets_any t pa26 pb26 pc26 _ _ l X p _ hT26 hr26 hz26 Hk.out (by have := HN.out; omega)).mono ?_
        rintro e xd26 ⟨rfl, hxd26⟩
        rw [Hp.out]
        have HB30 := Lib.hid (HB29.out.trans (hxd26.mono HB29.out.size))
        have HX30 := Lib.hid ((hxd26.block _ (Array.getElem?_eq_some_iff.1 HX29.out).1).trans HX29.out)
        go_wp2_with fail
        refine (awake_any _).mono ?_
        rintro e wz31 ⟨rfl, hbz31⟩
        go_wp2
        go_ret
        exact ⟨rfl, HB30.out.trans (hbz31.mono HB30.out.size)⟩
      · have Hp := Lib.hid (hq.trans (decide_eq_false hsp))
        have hdd : decide (sx ≤ p) = false := decide_eq_false hsp
        clear hq hsx h30
        have aq := box_cells HX25.out
        have a0 := aq 0
        have a1 := aq 1
        have a2 := aq 2
        have a3 := aq 3
        have a4 := aq 4
        simp only [List.getElem?_toArray, List.getElem?_cons_zero, List.getElem?_cons_succ] at a0 a1 a2 a3 a4
        clear aq
        go_wp2_with fail
        refine (Tariff_law t a b c _ (HT.out.below HB25.out) Hth.out).mono ?_
        rintro e xa32 ⟨pa32, pb32, pc32, rfl, hT32, hxa32⟩
        clear a0 a1 a2 a3 a4
        have HB33 := Lib.hid (HB25.out.trans (hxa32.mono HB25.out.size))
        have HX33 := Lib.hid ((hxa32.block _ (Array.getElem?_eq_some_iff.1 HX25.out).1).trans HX25.out)
        go_wp2_with fail
        refine (Rides_law _ l _ (Hv.out.below HB33.out) (by have := HN.out; omega)).mono ?_
        rintro e xb32 ⟨pA32, pk32, rfl, hr32, hxb32⟩
        have hT32 := hT32.below hxb32
        have HB34 := Lib.hid (HB33.out.trans (hxb32.mono HB33.out.size))
        have HX34 := Lib.hid ((hxb32.block _ (Array.getElem?_eq_some_iff.1 HX33.out).1).trans HX33.out)
        go_wp2_with fail
        refine (Tickets_law _ X _ (Hz.out.below HB34.out) (by have := HM.out; omega)).mono ?_
        rintro e xc32 ⟨pB32, pq32, rfl, hz32, hxc32⟩
        have hT32 := hT32.below hxc32
        have hr32 := hr32.below hxc32
        have HB35 := Lib.hid (HB34.out.trans (hxc32.mono HB34.out.size))
        have HX35 := Lib.hid ((hxc32.block _ (Array.getElem?_eq_some_iff.1 HX34.out).1).trans HX34.out)
        go_wp2_with fail
        refine (ProveTickets_any t pa32 pb32 pc32 _ _ l X p _ hT32 hr32 hz32 Hk.out (by have := HN.out; omega)).mono ?_
        rintro e xd32 ⟨rfl, hxd32⟩
        rw [Hp.out]
        have HB36 := Lib.hid (HB35.out.trans (hxd32.mono HB35.out.size))
        have HX36 := Lib.hid ((hxd32.block _ (Array.getElem?_eq_some_iff.1 HX35.out).1).trans HX35.out)
        go_wp2_with fail
        refine (awake_any _).mono ?_
        rintro e wz37 ⟨rfl, hbz37⟩
        go_wp2
        go_ret
        exact ⟨rfl, HB36.out.trans (hbz37.mono HB36.out.size)⟩
end Go.Proofs.YtmbkpfkkohpnkaaGreat
