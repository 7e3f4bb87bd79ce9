import Derived.Test.YtobeffjdfhkjeaaPX
import Derived.Test.YtobeffjdfhkjeaaWord
set_option linter.unusedVariables false
set_option linter.unusedSimpArgs false
namespace Go.Proofs.Ytobeffjdfhkjeaa
open Go Go.Proofs Go.RowKit

set_option maxRecDepth 100000 in
set_option maxHeartbeats 3200000 in
theorem Samples_not (n : Int) (coins more : Int) (v uw : Value) (ss : List Strat) (ws : List Int) (w : World) (hv : StrataAt w v ss) (hu : NumsAt .u16 w uw ws) (hw : WordsOk ws) (hr : readyB n ss = false) :
    Calls Try.prog 12 #[.agg #[.int .i64 n, v], .int .u32 coins, .int .u32 more, uw] w (Gives w (.bool true)) := by
  have hb0 : Below w.heap.size w (w.alloc (.cells #[.int .i64 n, v] 24)) := (Below.refl _ _).alloc (Nat.le_refl _) _
  obtain ⟨A, c, rfl, hc, hm⟩ := hv.form
  go_enter Try.func12, Try.ntmps12
  have g0 : (w.alloc (.cells #[.int .i64 n, .slice A ss.length c] 24)).cell? ⟨w.heap.size, 0, none⟩ = some (.int .i64 n) := by simp [go_sem]
  have g1 : (w.alloc (.cells #[.int .i64 n, .slice A ss.length c] 24)).cell? ⟨w.heap.size, 1, none⟩ = some (.slice A ss.length c) := by simp [go_sem]
  go_wp2_with fail
  refine (Gives.to hr (ready_any n _ ss _ (hv.below hb0))).mono ?_; rintro e w1 ⟨rfl, hb1⟩
  have hw1 := hb0.trans (hb1.mono hb0.size)
  replace g0 := cell_below hb1 g0
  replace g1 := cell_below hb1 g1
  go_wp2_with fail
  refine (wakes_any _).mono ?_; rintro e w2 ⟨rfl, hb2⟩
  have hw2 := hw1.trans (hb2.mono hw1.size)
  replace g0 := cell_below hb2 g0
  replace g1 := cell_below hb2 g1
  go_wp2
  go_ret
  exact ⟨rfl, hw2⟩

set_option maxRecDepth 100000 in
set_option maxHeartbeats 3200000 in
theorem Samples_lo (m : Nat) (coins more : Int) (v uw : Value) (ss : List Strat) (ws : List Int) (w : World) (hv : StrataAt w v ss) (hu : NumsAt .u16 w uw ws) (hw : WordsOk ws) (N : Int) (hN : 1 + coins % 10000000 = N) (hD : N + more % 10000000 < 10000000) (hc0 : 0 ≤ coins) (hc1 : coins ≤ 4294967295) (hm0 : 0 ≤ more) (hm1 : more ≤ 4294967295) (hr : readyB m ss = true) :
    Calls Try.prog 12 #[.agg #[.int .i64 m, v], .int .u32 coins, .int .u32 more, uw] w (Gives w (.bool true)) := by
  have hb0 : Below w.heap.size w (w.alloc (.cells #[.int .i64 m, v] 24)) := (Below.refl _ _).alloc (Nat.le_refl _) _
  obtain ⟨A, c, rfl, hc, hm⟩ := hv.form
  have hrf : thinB ss = true ∧ faultI m ss = 0 := by simpa [readyB] using hr
  obtain ⟨ht, hf⟩ := hrf
  obtain ⟨tl, tl9⟩ := thin_len ht
  have Htl := Lib.hid (fun (j : Nat) (s : Strat) (h : ss[j]? = some s) => Nat.le_trans (tl9 j s h) (by decide : 9 ≤ 1000))
  clear tl9
  obtain ⟨hs8, hn1, hn5, hval⟩ := fault_zero hf
  have hok : AllOk m ss := hval
  have Hok := Lib.hid hok
  have Hw := Lib.hid hw
  have Hf := Lib.hid hf
  have hN0 : 1 ≤ N ∧ N ≤ 10000000 := by omega
  have hNi : inB N 1 10000000 = true := inB_iff.2 hN0
  have hDi : inB (N + more % 10000000) 1 10000000 = true := inB_iff.2 (by omega)
  have hND : N ≤ (N + more % 10000000) := by omega
  have hm1N : 1 ≤ m := by omega
  have hEn : Enough ss N (needL N ss) := enough_need Hok.out hm1N (by omega)
  have hEu : Enough ss N (upL ss ws N) := enough_up Hw.out Hok.out hm1N (by omega)
  have HEn := Lib.hid hEn
  have HEu := Lib.hid hEu
  obtain ⟨i3, hi3, hx0, hx1, hx2⟩ := info_parts info3
  have hs8I : (ss.length : Int) ≤ 8 := by omega
  clear hval hok hw hf ht hEn hEu
  go_enter Try.func12, Try.ntmps12
  have g0 : (w.alloc (.cells #[.int .i64 m, .slice A ss.length c] 24)).cell? ⟨w.heap.size, 0, none⟩ = some (.int .i64 m) := by simp [go_sem]
  have g1 : (w.alloc (.cells #[.int .i64 m, .slice A ss.length c] 24)).cell? ⟨w.heap.size, 1, none⟩ = some (.slice A ss.length c) := by simp [go_sem]
  go_wp2_with fail
  refine (Gives.to hr (ready_any m _ ss _ (hv.below hb0))).mono ?_; rintro e w1 ⟨rfl, hb1⟩
  have hw1 := hb0.trans (hb1.mono hb0.size)
  replace g0 := cell_below hb1 g0
  replace g1 := cell_below hb1 g1
  clear hr
  go_wp2_with fail
  refine (Pool_any m _ ss _ (hv.below hw1) (by omega) Htl.out).mono ?_; rintro e w2 ⟨v2, rfl, s2, hb2⟩
  have hw2 := hw1.trans (hb2.mono hw1.size)
  replace g0 := cell_below hb2 g0
  replace g1 := cell_below hb2 g1
  obtain ⟨A2, c2, rfl, hc2, hm2⟩ := s2.form
  go_wp2_with fail
  clear hN
  refine (Needed_ok m N _ ss _ s2 Hf.out hNi).mono ?_; rintro e w3 ⟨A3, c3, rfl, o3, hb3⟩
  have hw3 := hw2.trans (hb3.mono hw2.size)
  replace g0 := cell_below hb3 g0
  replace g1 := cell_below hb3 g1
  replace s2 := s2.below hb3
  have nl := nums_of_own o3
  rw [needL_length] at nl o3 ⊢
  go_wp2_with fail
  refine (Pool_any m _ ss _ (hv.below hw3) (by omega) Htl.out).mono ?_; rintro e w4 ⟨v4, rfl, s4, hb4⟩
  have hw4 := hw3.trans (hb4.mono hw3.size)
  replace g0 := cell_below hb4 g0
  replace g1 := cell_below hb4 g1
  replace nl := nl.below hb4
  obtain ⟨A4, c4, rfl, hc4, hm4⟩ := s4.form
  go_wp2_with fail
  refine (Needed_ok m (N + more % 10000000) _ ss _ s4 Hf.out hDi).mono ?_; rintro e w5 ⟨A5, c5, rfl, o5, hb5⟩
  have hw5 := hw4.trans (hb5.mono hw4.size)
  replace g0 := cell_below hb5 g0
  replace g1 := cell_below hb5 g1
  replace nl := nl.below hb5
  replace s4 := s4.below hb5
  have nw := nums_of_own o5
  rw [needL_length] at nw o5 ⊢
  clear hDi hD
  go_wp2_with fail
  refine (Pool_any m _ ss _ (hv.below hw5) (by omega) Htl.out).mono ?_; rintro e w6 ⟨v6, rfl, s6, hb6⟩
  have hw6 := hw5.trans (hb6.mono hw5.size)
  replace g0 := cell_below hb6 g0
  replace g1 := cell_below hb6 g1
  replace nl := nl.below hb6
  replace nw := nw.below hb6
  obtain ⟨A6, c6, rfl, hc6, hm6⟩ := s6.form
  go_wp2_with fail
  refine (list_any _ (needL N ss) _ nl (by rw [needL_length]; omega)).mono ?_; rintro e w7 ⟨A7, c7, rfl, o7, hb7⟩
  have hw7 := hw6.trans (hb7.mono hw6.size)
  replace g0 := cell_below hb7 g0
  replace g1 := cell_below hb7 g1
  replace nl := nl.below hb7
  replace nw := nw.below hb7
  replace s6 := s6.below hb7
  have n7 := nums_of_own o7
  rw [needL_length] at n7 ⊢
  go_wp2_with fail
  refine (Gives.to (right_of HEn.out) (PN_any m N _ _ ss _ _ s6 n7 Hf.out hNi)).mono ?_; rintro e w8 ⟨rfl, hb8⟩
  have hw8 := hw7.trans (hb8.mono hw7.size)
  replace g0 := cell_below hb8 g0
  replace g1 := cell_below hb8 g1
  replace nl := nl.below hb8
  replace nw := nw.below hb8
  replace s6 := s6.below hb8
  obtain ⟨wb, rfl⟩ : ∃ wb : World, wb = w8 := ⟨_, rfl⟩
  have hwb : Below w.heap.size w wb := hw8
  go_wp2_with fail
  refine (list_any _ (needL N ss) _ nl (by rw [needL_length]; omega)).mono ?_; rintro e wa ⟨Aq, cq, rfl, oq, hbq⟩
  rw [needL_length, needL_row ss ws] at oq
  rw [needL_length]
  go_wp2_with fail
  go_loopw [15] (fun i wr => ∃ k : Nat, k ≤ ss.length ∧ i = .int .i64 k ∧ Below wb.heap.size wb wr ∧ wr.ownsRow wb.heap.size 3 1 (.slice Aq ss.length cq) ss.length (rowF ss.length (upF ss ws N k))) (fun i wr => ss.length - (intOf i).toNat)
  case atStart => exact ⟨0, by omega, rfl, hbq, oq⟩
  case round =>
    obtain ⟨k, hk, rfl, hbr, hown⟩ := hrel
    obtain ⟨wo, rfl⟩ : ∃ wo : World, wo = wr := ⟨_, rfl⟩
    have hwo := hwb.trans (hbr.mono hwb.size)
    have f0 := cell_below hbr g0
    have f1 := cell_below hbr g1
    by_cases hlt : k < ss.length
    · have k0 : (0 : Int) ≤ (k : Int) := by omega
      have k1 : (k : Int) < (ss.length : Int) := by omega
      obtain ⟨b, o, s, y, rfl, hs, hy, e0, e1, e2, e3, hby⟩ := (hv.below hwo).at_ hlt
      have hst := Hok.out k s hs
      have Hs := Lib.hid hs
      have Hst := Lib.hid hst
      obtain ⟨hcoin, hhi, hun, hse⟩ := strat_nums hst
      have hoks : SumOk s.seen := seen_ok hn5 hst
      have hnd := need_least (coins := N) hst hn1 (by omega)
      have hndb := hnd.2.2
      have han := need_anti (a := N) hst hm1N (by omega) hND
      have hub := upN_bd (coins := N) Hw.out hst hm1N (by omega) k
      obtain ⟨bl, ol, x, rfl, hx, dl, hbl⟩ := (nl.below hbr).at_ (k := k) (by rw [needL_length]; exact hlt)
      rw [needL_get hs] at hx
      cases hx
      obtain ⟨bw, ow, x, rfl, hx, dw, hbw⟩ := (nw.below hbr).at_ (k := k) (by rw [needL_length]; exact hlt)
      rw [needL_get hs] at hx
      cases hx
      obtain ⟨g, rfl, hg0, hg1⟩ := own_some hown (by omega)
      have hbl2 : bl < wb.heap.size := by
        obtain ⟨b', o', x', e, _, _, h⟩ := nl.at_ (k := k) (by rw [needL_length]; exact hlt)
        cases e
        exact h
      obtain ⟨ln, hln⟩ : ∃ z : Nat, needN s N = z := ⟨_, rfl⟩
      obtain ⟨wn, hwn⟩ : ∃ z : Nat, needN s (N + more % 10000000) = z := ⟨_, rfl⟩
      obtain ⟨up, hup⟩ : ∃ z, upN ws N k s = z := ⟨_, rfl⟩
      have Hup : Hid (up = ln + wordI ws (k + 5) % (s.hi - sumL s.seen - ln + 1)) := by
        show _ = _
        rw [← hup, ← hln]
        rfl
      rw [hln] at hndb han hub dl
      rw [hwn] at han dw
      rw [hup] at hub
      have Hln := Lib.hid hln
      have Hupn := Lib.hid hup
      clear hs hst hse hnd hln hwn hup
      have hwl : (wn : Int) ≤ (ln : Int) := by omega
      have r1 : wo.cell? ⟨g, k, none⟩ = some (.int .i64 ln) := by
        rw [hown.cellAt k (by omega), rowF_get hlt]
        simp [upF, Hs.out, Hln.out]
      have hst3 := (hown.stored k (.int .i64 up)).1
      rw [rowF_set, rowF_congr (g := upF ss ws N (k + 1)) (fun c hc => by rw [← upF_step Hs.out, Hupn.out])] at hst3
      have Hst3 := Lib.hid hst3
      have r2 := hown.frozenAt k
      have Hown := Lib.hid hown
      clear hst3 hown
      have hin : inB (ln : Int) 0 (s.hi - sumL s.seen) = true := inB_iff.2 (by omega)
      obtain ⟨D1, F1, rfl, hD1, hD1'⟩ := hy.form
      go_wp2_with fail
      refine (Unseen_any s _ _ hy hoks (by omega) (by omega)).mono ?_; rintro e w1 ⟨rfl, hb1⟩
      have f1a := cell_below hb1 f1
      have dla := cell_below hb1 dl
      have dwa := cell_below hb1 dw
      have r1a := cell_below hb1 r1
      obtain ⟨un, hunn⟩ : ∃ un, s.hi - sumL s.seen = un := ⟨_, rfl⟩
      rw [hunn] at hin hun hndb hub Hup ⊢
      have Hun := Lib.hid hunn
      clear hunn
      have dl1 := Later.cell dla
      have dw1 := Later.cell dwa
      go_wp2_with fail
      refine wp_region_later (by kernel_rfl) (by kernel_rfl) ?_
      repeat (go_big_quiet_step ((go_at_call 40; exact Later.call (Gives.to hin (In_any _ _ _ _)))))
      refine wpQuiet_nil ?_
      intro w2 hx2
      have hb2 := Later.out hx2
      clear hx2 dl1 dw1
      have dlb := cell_below hb2 dla
      have r1b := cell_below hb2 r1a
      have hb02 := hb1.trans (hb2.mono hb1.size)
      have hu2 := hu.below (hwo.trans (hb02.mono hwo.size))
      have hwd := wordI_bd Hw.out (k + 5)
      obtain ⟨d, hd⟩ : ∃ d, wordI ws (k + 5) = d := ⟨_, rfl⟩
      have Hd := Lib.hid hd
      rw [hd] at hwd Hup
      clear hd
      go_wp2_with fail
      refine wp_region_noPanic ?_
      refine wp_region_pick [0, 1, 2, 3, 4, 5, 6, 8, 9, 10, 11, 12, 13, 14] [7, 15, 16, 17, 18] (fun j => j != 18) (fun w' => w'.cell? ⟨g, k, none⟩ = some (.int .i64 ln) ∧ w'.cell? ⟨bl, ol + k, none⟩ = some (.int .i64 ln)) (by kernel_rfl) (by kernel_rfl) (fun _ _ _ _ _ h => h) ⟨r1b, dlb⟩ (fun hne => ?_)
      have m0 := fun x : Meets (fun w' => w'.cell? ⟨g, k, none⟩ = some (.int .i64 ln) ∧ w'.cell? ⟨bl, ol + k, none⟩ = some (.int .i64 ln)) => x.property
      have x0 := fun x => (m0 x).1
      have x1 := fun x => (m0 x).2
      clear m0
      simp only [pick, pickN, List.filterMap_cons, List.filterMap_nil, List.getElem?_cons_zero, List.getElem?_cons_succ, Option.map_some]
      repeat (change wpQuiet _ _ _ _ (_ :: _) _; go_big_quiet_step (fail))
      refine wpQuiet_nil ?_
      clear x0 x1 hne
      refine wpSeqP_step (fun K hK => ?_)
      go_simp
      have hkj : (k : Int) + 5 = ((k + 5 : Nat) : Int) := by omega
      rw [hkj]
      refine (word_same _ ws (k + 5) _ (hu2.below (Below.refl _ _).drew) Hw.out (by omega)).mono ?_
      rw [Hd.out]
      rintro e w3 ⟨rfl, rfl⟩
      refine hK.out _ _ (fun _ => ⟨r1b, dlb⟩) ?_
      clear hK K hkj
      refine wpSeqP_step (fun K hK => ?_)
      go_simp
      rw [if_neg (by omega), Int.tmod_eq_emod_of_nonneg hwd.1]
      go_simp
      obtain ⟨r, hr⟩ : ∃ r, d % (un - (ln : Int) + 1) = r := ⟨_, rfl⟩
      rw [hr] at Hup ⊢
      have Hr := Lib.hid hr
      clear hr
      have hrb : 0 ≤ r ∧ (ln : Int) + r ≤ un := by have := Hup.out; omega
      refine hK.out _ _ (fun _ => ⟨r1b, dlb⟩) ?_
      clear hK K
      refine wpSeqP_step (fun K hK => ?_)
      go_simp
      first
        | rw [IntWalk.i64_in _ (by omega)]
        | skip
      rw [← Hup.out]
      refine hK.out _ _ (fun _ => ⟨r1b, dlb⟩) ?_
      clear hK K
      refine wpSeqP_step (fun K hK => ?_)
      go_simp
      refine hK.out _ _ (fun _ => ⟨r1b, dlb⟩) ?_
      clear hK K
      have r2b : w2.frozen? ⟨g, k, none⟩ = false := (hb02.frozen (p := ⟨g, k, none⟩) (by simpa using hg1)).trans r2
      refine wpSeqP_step (fun K hK => ?_)
      go_simp
      refine hK.out _ _ (fun h => by cases h) ?_
      clear hK K
      refine wpSeqP_nil ?_
      refine NoPanic.normal ?_
      have hb3 : Below wb.heap.size wb (w2.setCell ⟨g, k, none⟩ (.int .i64 up)).drew := ((hbr.trans (hb02.mono hbr.size)).setCell (p := ⟨g, k, none⟩) hg0 _).drew
      have own3 : (w2.setCell ⟨g, k, none⟩ (.int .i64 up)).drew.ownsRow wb.heap.size 3 1 (.slice (some ⟨g, 0, none⟩) ss.length cq) ss.length (rowF ss.length (upF ss ws N (k + 1))) := by
        have h2 := own_below Hown.out hb02
        have h3 := (h2.stored k (.int .i64 up)).1
        rw [rowF_set, rowF_congr (g := upF ss ws N (k + 1)) (fun c hc => by rw [← upF_step Hs.out, Hupn.out])] at h3
        exact h3
      have dl3 : (w2.setCell ⟨g, k, none⟩ (.int .i64 up)).drew.cell? ⟨bl, ol + k, none⟩ = some (.int .i64 ln) := by
        show (w2.setCell ⟨g, k, none⟩ (.int .i64 up)).cell? ⟨bl, ol + k, none⟩ = _
        rw [World.cell?_setCell_other _ _ _ _ (by intro e; have q := congrArg Addr.block e; simp only at q; omega)]
        exact dlb
      have Hown3 := Lib.hid own3
      have hw3 := hwb.trans (hb3.mono hwb.size)
      have f0c := cell_below hb3 g0
      have f1c := cell_below hb3 g1
      have nl3 := nl.below hb3
      obtain ⟨w3, hw3e⟩ : ∃ w3, (w2.setCell ⟨g, k, none⟩ (.int .i64 up)).drew = w3 := ⟨_, rfl⟩
      clear own3
      rw [hw3e] at hb3 Hown3 dl3 hw3 f0c f1c nl3 ⊢
      clear hw3e r1 r2 r1a r1b r2b dl dw dla dwa dlb e0 e1 e2 e3 f0 f1 f1a hu2
      by_cases hp : 0 < ln
      · have hpI : (0 : Int) < (ln : Int) := by omega
        go_wp2_with fail
        refine (list_any _ (needL N ss) _ nl3 (by rw [needL_length]; omega)).mono ?_; rintro e w4 ⟨A4x, c4x, rfl, o4, hb4⟩
        rw [needL_length] at o4 ⊢
        obtain ⟨g4, rfl, hg4, hg4'⟩ := own_some o4 (by omega)
        have q1 : w4.cell? ⟨g4, k, none⟩ = some (.int .i64 ln) := by
          rw [o4.cellAt k (by omega), List.getElem?_map, needL_get Hs.out, Hln.out]
          rfl
        have q2 := o4.frozenAt k
        have hst4 := (o4.stored k (.int .i64 ((ln : Int) - 1))).1
        rw [← List.map_set] at hst4
        have hb5 : Below w3.heap.size w3 (w4.setCell ⟨g4, k, none⟩ (.int .i64 ((ln : Int) - 1))) := hb4.setCell (p := ⟨g4, k, none⟩) hg4 _
        have n5 := nums_of_own hst4
        have hb35 := hb3.trans (hb5.mono hb3.size)
        have hw5 := hwb.trans (hb35.mono hwb.size)
        have f0d := cell_below hb5 f0c
        have f1d := cell_below hb5 f1c
        have hrl := right_less (coins := N) (ms := (needL N ss).set k ((ln : Int) - 1)) Hok.out hm1N (by omega) Hs.out (by rw [Hln.out]; exact hp) (by rw [List.getElem?_set, if_pos rfl, if_pos (by rw [needL_length]; omega), Hln.out])
        go_wp2_with fail
        refine (Pool_any m _ ss _ (hv.below hw5) (by omega) Htl.out).mono ?_; rintro e w6 ⟨v6, rfl, s6, hb6⟩
        obtain ⟨A6, c6, rfl, hc6, hm6⟩ := s6.form
        have hb36 := hb5.trans (hb6.mono hb5.size)
        go_wp2_with fail
        refine (Gives.to hrl (PN_any m N _ _ ss _ _ s6 (n5.below hb6) Hf.out hNi)).mono ?_; rintro e w7 ⟨rfl, hb7⟩
        have hb37 := hb36.trans (hb7.mono hb36.size)
        go_wp2
        go_roundw
        case rel => exact ⟨k + 1, by omega, by go_num, hb3.trans (hb37.mono hb3.size), own_below Hown3.out hb37⟩
        case measure => simp [intOf]; omega
      · have hpI : (ln : Int) ≤ (0 : Int) := by omega
        go_wp2
        go_roundw
        case rel => exact ⟨k + 1, by omega, by go_num, hb3, Hown3.out⟩
        case measure => simp [intOf]; omega
    · obtain rfl : k = ss.length := by omega
      rw [upL_row] at hown
      have nu := nums_of_own hown
      go_wp2_with fail
      refine (Pool_any m _ ss _ (hv.below hwo) (by omega) Htl.out).mono ?_; rintro e w1 ⟨v1, rfl, s1, hb1⟩
      obtain ⟨A1, c1, rfl, hc1', hm1'⟩ := s1.form
      have hw1 := hwo.trans (hb1.mono hwo.size)
      have nu1 := nu.below hb1
      replace f0 := cell_below hb1 f0
      replace f1 := cell_below hb1 f1
      go_wp2_with fail
      refine (list_any _ (upL ss ws N) _ nu1 (by rw [upL_length]; omega)).mono ?_; rintro e w2 ⟨A2q, c2q, rfl, o2, hb2⟩
      have n2 := nums_of_own o2
      rw [upL_length] at n2 ⊢
      have hw2 := hw1.trans (hb2.mono hw1.size)
      have nu2 := nu1.below hb2
      replace f0 := cell_below hb2 f0
      replace f1 := cell_below hb2 f1
      go_wp2_with fail
      refine (Gives.to (right_of HEu.out) (PN_any m N _ _ ss _ _ (s1.below hb2) n2 Hf.out hNi)).mono ?_; rintro e w3 ⟨rfl, hb3⟩
      have hw3 := hw2.trans (hb3.mono hw2.size)
      have nu3 := nu2.below hb3
      replace f0 := cell_below hb3 f0
      replace f1 := cell_below hb3 f1
      have nl3 := ((nl.below hbr).below hb1).below (hb2.trans (hb3.mono hb2.size))
      by_cases hz : ss.length = 0
      · have hz1 : ((ss.length : Int) == 0) = true := by simp [hz]
        clear hz
        go_wp2_with fail
        refine (wakes_any _).mono ?_; rintro e w4 ⟨rfl, hb4⟩
        go_wp2
        go_ret
        exact ⟨rfl, hw3.trans (hb4.mono hw3.size)⟩
      · have hz1 : ((ss.length : Int) == 0) = false := beq_eq_false_iff_ne.2 (by omega)
        have Hz := Lib.hid hz
        clear hz
        go_wp2_with fail
        go_loopw [18] (fun i wr => ∃ k : Nat, k ≤ 2 ∧ i = .int .i64 k ∧ Below w3.heap.size w3 wr) (fun i wr => 2 - (intOf i).toNat)
        case atStart => exact ⟨0, by omega, rfl, Below.refl _ _⟩
        case round =>
          obtain ⟨k, hk2, rfl, hbk⟩ := hrel
          obtain ⟨wo, rfl⟩ : ∃ wo : World, wo = wr := ⟨_, rfl⟩
          have hwk := hw3.trans (hbk.mono hw3.size)
          have f0k := cell_below hbk f0
          have f1k := cell_below hbk f1
          have nlk := nl3.below hbk
          have nuk := nu3.below hbk
          by_cases hlt : k < 2
          · have hltI : (k : Int) < 2 := by omega
            have hms1 : ∀ (j : Nat) (s : Strat), ss[j]? = some s → 0 ≤ (needL N ss)[j]?.getD 0 ∧ (needL N ss)[j]?.getD 0 ≤ s.hi - sumL s.seen := fun j s hs => by
              obtain ⟨x, hx, hx1, hx2⟩ := HEn.out.one j s hs
              rw [hx, Option.getD_some]
              exact ⟨by omega, hx1⟩
            have hms2 : ∀ (j : Nat) (s : Strat), ss[j]? = some s → 0 ≤ (upL ss ws N)[j]?.getD 0 ∧ (upL ss ws N)[j]?.getD 0 ≤ s.hi - sumL s.seen := fun j s hs => by
              obtain ⟨x, hx, hx1, hx2⟩ := HEu.out.one j s hs
              rw [hx, Option.getD_some]
              exact ⟨by omega, hx1⟩
            have Hms1 := Lib.hid hms1
            have Hms2 := Lib.hid hms2
            clear hms1 hms2
            go_wp2_with fail
            refine (spread_any m _ _ _ ss (needL N ss) ws _ (hv.below hwk) nlk (hu.below hwk) Hw.out Hf.out (needL_length _ _) Hms1.out).mono ?_; rintro e w4 ⟨v4, rfl, s4, hb4⟩
            have hw4 := hwk.trans (hb4.mono hwk.size)
            have f0l := cell_below hb4 f0k
            have f1l := cell_below hb4 f1k
            have nul := nuk.below hb4
            have hsz4 := World.block_lt_of_cell? _ _ f0l
            dsimp only at hsz4
            obtain ⟨A4q, c4q, rfl, hc4q, hm4q⟩ := s4.form
            have hsp1 := spread_fault (ws := ws) Hf.out HEn.out
            have hsw1 := spread_width (ws := ws) Hok.out hm1N (by omega) HEn.out (spreadL m ss (needL N ss) ws).length
            have hsl1 : ∀ (j : Nat) (s : Strat), (spreadL m ss (needL N ss) ws)[j]? = some s → s.seen.length ≤ 1000 := fun j s hs => by
              have := (stratB_iff.1 ((fault_zero hsp1).2.2.2 j s hs)).2.2.2.2.1
              omega
            have hsp2 := spread_fault (ws := ws) Hf.out HEu.out
            have hsw2 := spread_width (ws := ws) Hok.out hm1N (by omega) HEu.out (spreadL m ss (upL ss ws N) ws).length
            have hsl2 : ∀ (j : Nat) (s : Strat), (spreadL m ss (upL ss ws N) ws)[j]? = some s → s.seen.length ≤ 1000 := fun j s hs => by
              have := (stratB_iff.1 ((fault_zero hsp2).2.2.2 j s hs)).2.2.2.2.1
              omega
            have hl1 : (spreadL m ss (needL N ss) ws).length = ss.length := spreadL_len _ _ _ _
            have hl2 : (spreadL m ss (upL ss ws N) ws).length = ss.length := spreadL_len _ _ _ _
            obtain ⟨s1L, hs1L⟩ : ∃ l, spreadL m ss (needL N ss) ws = l := ⟨_, rfl⟩
            obtain ⟨s2L, hs2L⟩ : ∃ l, spreadL m ss (upL ss ws N) ws = l := ⟨_, rfl⟩
            rw [hs1L] at hsp1 hsw1 hsl1 hl1 s4 ⊢
            rw [hs2L] at hsp2 hsw2 hsl2 hl2
            have Hs2L := Lib.hid hs2L
            have Hsp1 := Lib.hid hsp1
            have Hsp2 := Lib.hid hsp2
            have Hsl1 := Lib.hid hsl1
            have Hsl2 := Lib.hid hsl2
            have Hl1 := Lib.hid hl1
            have Hl2 := Lib.hid hl2
            clear hs1L hs2L hsp1 hsp2 hsl1 hsl2 hl1 hl2
            by_cases hk1 : k = 1
            · have hk1I : ((k : Int) == 1) = true := by simp [hk1]
              clear hk1
              go_wp2_with fail
              have hba4 : Below w4.heap.size w4 (w4.alloc (.cells #[.int .i64 m, .slice A4q s1L.length c4q] 24)) := (Below.refl _ _).alloc (Nat.le_refl _) _
              refine (spread_own m _ _ _ ss (upL ss ws N) ws _ ((hv.below hw4).below hba4) (nul.below hba4) ((hu.below hw4).below hba4) Hw.out Hf.out (upL_length _ _ _) Hms2.out).mono ?_
              rw [Hs2L.out]
              rintro e w5 ⟨A5q, c5q, us5, rfl, o5, so5, hb5⟩
              have z0 : w5.cell? ⟨w4.heap.size, 0, none⟩ = some (.int .i64 m) := cell_below hb5 (by simp [go_sem])
              have z1 : w5.cell? ⟨w4.heap.size, 1, none⟩ = some (.slice A4q s1L.length c4q) := cell_below hb5 (by simp [go_sem])
              have z2 : w5.frozen? ⟨w4.heap.size, 0, none⟩ = false := by rw [hb5.frozen (p := ⟨w4.heap.size, 0, none⟩) (by simp)]; simp [go_sem]
              have z3 : w5.frozen? ⟨w4.heap.size, 1, none⟩ = false := by rw [hb5.frozen (p := ⟨w4.heap.size, 1, none⟩) (by simp)]; simp [go_sem]
              have hb45 : Below w4.heap.size w4 ((w5.setCell ⟨w4.heap.size, 0, none⟩ (.int .i64 m)).setCell ⟨w4.heap.size, 1, none⟩ (.slice A5q s2L.length c5q)) :=
                ((hba4.trans (hb5.mono (by simp))).setCell (p := ⟨w4.heap.size, 0, none⟩) (by simp) _).setCell (p := ⟨w4.heap.size, 1, none⟩) (by simp) _
              have s5' : StrataAt ((w5.setCell ⟨w4.heap.size, 0, none⟩ (.int .i64 m)).setCell ⟨w4.heap.size, 1, none⟩ (.slice A5q s2L.length c5q)) (.slice A5q s2L.length c5q) s2L :=
                strata_of_own (ownsRow_setCell_below (ownsRow_setCell_below o5 (by simp) _) (by simp) _) ((so5.set (by simp) _).set (by simp) _)
              have hw5 := hw4.trans (hb45.mono hw4.size)
              go_wp2_with fail
              refine (Pool_any m _ s2L _ s5' (by rw [Hl2.out]; omega) Hsl2.out).mono ?_; rintro e w6 ⟨v6, rfl, s6, hb6⟩
              have hw6 := hw5.trans (hb6.mono hw5.size)
              go_wp2_with fail
              refine (Widest_any m _ s2L _ s6 Hsp2.out).mono ?_
              rw [if_neg (by rw [Hl2.out]; exact Hz.out)]
              rintro e w7 ⟨rfl, hb7⟩
              go_wp2
              go_roundw
              case rel => exact ⟨k + 1, by omega, by go_num, (hbk.trans (hb4.mono hbk.size)).trans (((hb45.trans (hb6.mono hb45.size)).trans (hb7.mono (by have := hb45.size; have := hb6.size; omega))).mono (by have := hbk.size; have := hb4.size; omega))⟩
              case measure => simp [intOf]; omega
            · have hk1I : ((k : Int) == 1) = false := beq_eq_false_iff_ne.2 (by omega)
              clear hk1
              have hba4 : Below w4.heap.size w4 (w4.alloc (.cells #[.int .i64 m, .slice A4q s1L.length c4q] 24)) := (Below.refl _ _).alloc (Nat.le_refl _) _
              have hw5 := hw4.trans (hba4.mono hw4.size)
              go_wp2_with fail
              refine (Pool_any m _ s1L _ (s4.below hba4) (by rw [Hl1.out]; omega) Hsl1.out).mono ?_; rintro e w6 ⟨v6, rfl, s6, hb6⟩
              have hw6 := hw5.trans (hb6.mono hw5.size)
              go_wp2_with fail
              refine (Widest_any m _ s1L _ s6 Hsp1.out).mono ?_
              rw [if_neg (by rw [Hl1.out]; exact Hz.out)]
              rintro e w7 ⟨rfl, hb7⟩
              go_wp2
              go_roundw
              case rel => exact ⟨k + 1, by omega, by go_num, (hbk.trans (hb4.mono hbk.size)).trans (((hba4.trans (hb6.mono hba4.size)).trans (hb7.mono (by have := hba4.size; have := hb6.size; omega))).mono (by have := hbk.size; have := hb4.size; omega))⟩
              case measure => simp [intOf]; omega
          · obtain rfl : k = 2 := by omega
            go_wp2_with fail
            refine (wakes_any _).mono ?_; rintro e w4 ⟨rfl, hb4⟩
            go_wp2
            go_ret
            exact ⟨rfl, hwk.trans (hb4.mono hwk.size)⟩

set_option maxRecDepth 100000 in
set_option maxHeartbeats 3200000 in
theorem Samples_hi (m : Nat) (coins more : Int) (v uw : Value) (ss : List Strat) (ws : List Int) (w : World) (hv : StrataAt w v ss) (hu : NumsAt .u16 w uw ws) (hw : WordsOk ws) (N : Int) (hN : 1 + coins % 10000000 = N) (hD : 10000000 ≤ N + more % 10000000) (hc0 : 0 ≤ coins) (hc1 : coins ≤ 4294967295) (hm0 : 0 ≤ more) (hm1 : more ≤ 4294967295) (hr : readyB m ss = true) :
    Calls Try.prog 12 #[.agg #[.int .i64 m, v], .int .u32 coins, .int .u32 more, uw] w (Gives w (.bool true)) := by
  have hb0 : Below w.heap.size w (w.alloc (.cells #[.int .i64 m, v] 24)) := (Below.refl _ _).alloc (Nat.le_refl _) _
  obtain ⟨A, c, rfl, hc, hm⟩ := hv.form
  have hrf : thinB ss = true ∧ faultI m ss = 0 := by simpa [readyB] using hr
  obtain ⟨ht, hf⟩ := hrf
  obtain ⟨tl, tl9⟩ := thin_len ht
  have Htl := Lib.hid (fun (j : Nat) (s : Strat) (h : ss[j]? = some s) => Nat.le_trans (tl9 j s h) (by decide : 9 ≤ 1000))
  clear tl9
  obtain ⟨hs8, hn1, hn5, hval⟩ := fault_zero hf
  have hok : AllOk m ss := hval
  have Hok := Lib.hid hok
  have Hw := Lib.hid hw
  have Hf := Lib.hid hf
  have hN0 : 1 ≤ N ∧ N ≤ 10000000 := by omega
  have hNi : inB N 1 10000000 = true := inB_iff.2 hN0
  have hDi : inB 10000000 1 10000000 = true := inB_iff.2 (by omega)
  have hND : N ≤ 10000000 := by omega
  have hm1N : 1 ≤ m := by omega
  have hEn : Enough ss N (needL N ss) := enough_need Hok.out hm1N (by omega)
  have hEu : Enough ss N (upL ss ws N) := enough_up Hw.out Hok.out hm1N (by omega)
  have HEn := Lib.hid hEn
  have HEu := Lib.hid hEu
  obtain ⟨i3, hi3, hx0, hx1, hx2⟩ := info_parts info3
  have hs8I : (ss.length : Int) ≤ 8 := by omega
  clear hval hok hw hf ht hEn hEu
  go_enter Try.func12, Try.ntmps12
  have g0 : (w.alloc (.cells #[.int .i64 m, .slice A ss.length c] 24)).cell? ⟨w.heap.size, 0, none⟩ = some (.int .i64 m) := by simp [go_sem]
  have g1 : (w.alloc (.cells #[.int .i64 m, .slice A ss.length c] 24)).cell? ⟨w.heap.size, 1, none⟩ = some (.slice A ss.length c) := by simp [go_sem]
  go_wp2_with fail
  refine (Gives.to hr (ready_any m _ ss _ (hv.below hb0))).mono ?_; rintro e w1 ⟨rfl, hb1⟩
  have hw1 := hb0.trans (hb1.mono hb0.size)
  replace g0 := cell_below hb1 g0
  replace g1 := cell_below hb1 g1
  clear hr
  go_wp2_with fail
  refine (Pool_any m _ ss _ (hv.below hw1) (by omega) Htl.out).mono ?_; rintro e w2 ⟨v2, rfl, s2, hb2⟩
  have hw2 := hw1.trans (hb2.mono hw1.size)
  replace g0 := cell_below hb2 g0
  replace g1 := cell_below hb2 g1
  obtain ⟨A2, c2, rfl, hc2, hm2⟩ := s2.form
  go_wp2_with fail
  clear hN
  refine (Needed_ok m N _ ss _ s2 Hf.out hNi).mono ?_; rintro e w3 ⟨A3, c3, rfl, o3, hb3⟩
  have hw3 := hw2.trans (hb3.mono hw2.size)
  replace g0 := cell_below hb3 g0
  replace g1 := cell_below hb3 g1
  replace s2 := s2.below hb3
  have nl := nums_of_own o3
  rw [needL_length] at nl o3 ⊢
  go_wp2_with fail
  refine (Pool_any m _ ss _ (hv.below hw3) (by omega) Htl.out).mono ?_; rintro e w4 ⟨v4, rfl, s4, hb4⟩
  have hw4 := hw3.trans (hb4.mono hw3.size)
  replace g0 := cell_below hb4 g0
  replace g1 := cell_below hb4 g1
  replace nl := nl.below hb4
  obtain ⟨A4, c4, rfl, hc4, hm4⟩ := s4.form
  go_wp2_with fail
  refine (Needed_ok m 10000000 _ ss _ s4 Hf.out hDi).mono ?_; rintro e w5 ⟨A5, c5, rfl, o5, hb5⟩
  have hw5 := hw4.trans (hb5.mono hw4.size)
  replace g0 := cell_below hb5 g0
  replace g1 := cell_below hb5 g1
  replace nl := nl.below hb5
  replace s4 := s4.below hb5
  have nw := nums_of_own o5
  rw [needL_length] at nw o5 ⊢
  clear hDi hD
  go_wp2_with fail
  refine (Pool_any m _ ss _ (hv.below hw5) (by omega) Htl.out).mono ?_; rintro e w6 ⟨v6, rfl, s6, hb6⟩
  have hw6 := hw5.trans (hb6.mono hw5.size)
  replace g0 := cell_below hb6 g0
  replace g1 := cell_below hb6 g1
  replace nl := nl.below hb6
  replace nw := nw.below hb6
  obtain ⟨A6, c6, rfl, hc6, hm6⟩ := s6.form
  go_wp2_with fail
  refine (list_any _ (needL N ss) _ nl (by rw [needL_length]; omega)).mono ?_; rintro e w7 ⟨A7, c7, rfl, o7, hb7⟩
  have hw7 := hw6.trans (hb7.mono hw6.size)
  replace g0 := cell_below hb7 g0
  replace g1 := cell_below hb7 g1
  replace nl := nl.below hb7
  replace nw := nw.below hb7
  replace s6 := s6.below hb7
  have n7 := nums_of_own o7
  rw [needL_length] at n7 ⊢
  go_wp2_with fail
  refine (Gives.to (right_of HEn.out) (PN_any m N _ _ ss _ _ s6 n7 Hf.out hNi)).mono ?_; rintro e w8 ⟨rfl, hb8⟩
  have hw8 := hw7.trans (hb8.mono hw7.size)
  replace g0 := cell_below hb8 g0
  replace g1 := cell_below hb8 g1
  replace nl := nl.below hb8
  replace nw := nw.below hb8
  replace s6 := s6.below hb8
  obtain ⟨wb, rfl⟩ : ∃ wb : World, wb = w8 := ⟨_, rfl⟩
  have hwb : Below w.heap.size w wb := hw8
  go_wp2_with fail
  refine (list_any _ (needL N ss) _ nl (by rw [needL_length]; omega)).mono ?_; rintro e wa ⟨Aq, cq, rfl, oq, hbq⟩
  rw [needL_length, needL_row ss ws] at oq
  rw [needL_length]
  go_wp2_with fail
  go_loopw [15] (fun i wr => ∃ k : Nat, k ≤ ss.length ∧ i = .int .i64 k ∧ Below wb.heap.size wb wr ∧ wr.ownsRow wb.heap.size 3 1 (.slice Aq ss.length cq) ss.length (rowF ss.length (upF ss ws N k))) (fun i wr => ss.length - (intOf i).toNat)
  case atStart => exact ⟨0, by omega, rfl, hbq, oq⟩
  case round =>
    obtain ⟨k, hk, rfl, hbr, hown⟩ := hrel
    obtain ⟨wo, rfl⟩ : ∃ wo : World, wo = wr := ⟨_, rfl⟩
    have hwo := hwb.trans (hbr.mono hwb.size)
    have f0 := cell_below hbr g0
    have f1 := cell_below hbr g1
    by_cases hlt : k < ss.length
    · have k0 : (0 : Int) ≤ (k : Int) := by omega
      have k1 : (k : Int) < (ss.length : Int) := by omega
      obtain ⟨b, o, s, y, rfl, hs, hy, e0, e1, e2, e3, hby⟩ := (hv.below hwo).at_ hlt
      have hst := Hok.out k s hs
      have Hs := Lib.hid hs
      have Hst := Lib.hid hst
      obtain ⟨hcoin, hhi, hun, hse⟩ := strat_nums hst
      have hoks : SumOk s.seen := seen_ok hn5 hst
      have hnd := need_least (coins := N) hst hn1 (by omega)
      have hndb := hnd.2.2
      have han := need_anti (a := N) hst hm1N (by omega) hND
      have hub := upN_bd (coins := N) Hw.out hst hm1N (by omega) k
      obtain ⟨bl, ol, x, rfl, hx, dl, hbl⟩ := (nl.below hbr).at_ (k := k) (by rw [needL_length]; exact hlt)
      rw [needL_get hs] at hx
      cases hx
      obtain ⟨bw, ow, x, rfl, hx, dw, hbw⟩ := (nw.below hbr).at_ (k := k) (by rw [needL_length]; exact hlt)
      rw [needL_get hs] at hx
      cases hx
      obtain ⟨g, rfl, hg0, hg1⟩ := own_some hown (by omega)
      have hbl2 : bl < wb.heap.size := by
        obtain ⟨b', o', x', e, _, _, h⟩ := nl.at_ (k := k) (by rw [needL_length]; exact hlt)
        cases e
        exact h
      obtain ⟨ln, hln⟩ : ∃ z : Nat, needN s N = z := ⟨_, rfl⟩
      obtain ⟨wn, hwn⟩ : ∃ z : Nat, needN s 10000000 = z := ⟨_, rfl⟩
      obtain ⟨up, hup⟩ : ∃ z, upN ws N k s = z := ⟨_, rfl⟩
      have Hup : Hid (up = ln + wordI ws (k + 5) % (s.hi - sumL s.seen - ln + 1)) := by
        show _ = _
        rw [← hup, ← hln]
        rfl
      rw [hln] at hndb han hub dl
      rw [hwn] at han dw
      rw [hup] at hub
      have Hln := Lib.hid hln
      have Hupn := Lib.hid hup
      clear hs hst hse hnd hln hwn hup
      have hwl : (wn : Int) ≤ (ln : Int) := by omega
      have r1 : wo.cell? ⟨g, k, none⟩ = some (.int .i64 ln) := by
        rw [hown.cellAt k (by omega), rowF_get hlt]
        simp [upF, Hs.out, Hln.out]
      have hst3 := (hown.stored k (.int .i64 up)).1
      rw [rowF_set, rowF_congr (g := upF ss ws N (k + 1)) (fun c hc => by rw [← upF_step Hs.out, Hupn.out])] at hst3
      have Hst3 := Lib.hid hst3
      have r2 := hown.frozenAt k
      have Hown := Lib.hid hown
      clear hst3 hown
      have hin : inB (ln : Int) 0 (s.hi - sumL s.seen) = true := inB_iff.2 (by omega)
      obtain ⟨D1, F1, rfl, hD1, hD1'⟩ := hy.form
      go_wp2_with fail
      refine (Unseen_any s _ _ hy hoks (by omega) (by omega)).mono ?_; rintro e w1 ⟨rfl, hb1⟩
      have f1a := cell_below hb1 f1
      have dla := cell_below hb1 dl
      have dwa := cell_below hb1 dw
      have r1a := cell_below hb1 r1
      obtain ⟨un, hunn⟩ : ∃ un, s.hi - sumL s.seen = un := ⟨_, rfl⟩
      rw [hunn] at hin hun hndb hub Hup ⊢
      have Hun := Lib.hid hunn
      clear hunn
      have dl1 := Later.cell dla
      have dw1 := Later.cell dwa
      go_wp2_with fail
      refine wp_region_later (by kernel_rfl) (by kernel_rfl) ?_
      repeat (go_big_quiet_step ((go_at_call 40; exact Later.call (Gives.to hin (In_any _ _ _ _)))))
      refine wpQuiet_nil ?_
      intro w2 hx2
      have hb2 := Later.out hx2
      clear hx2 dl1 dw1
      have dlb := cell_below hb2 dla
      have r1b := cell_below hb2 r1a
      have hb02 := hb1.trans (hb2.mono hb1.size)
      have hu2 := hu.below (hwo.trans (hb02.mono hwo.size))
      have hwd := wordI_bd Hw.out (k + 5)
      obtain ⟨d, hd⟩ : ∃ d, wordI ws (k + 5) = d := ⟨_, rfl⟩
      have Hd := Lib.hid hd
      rw [hd] at hwd Hup
      clear hd
      go_wp2_with fail
      refine wp_region_noPanic ?_
      refine wp_region_pick [0, 1, 2, 3, 4, 5, 6, 8, 9, 10, 11, 12, 13, 14] [7, 15, 16, 17, 18] (fun j => j != 18) (fun w' => w'.cell? ⟨g, k, none⟩ = some (.int .i64 ln) ∧ w'.cell? ⟨bl, ol + k, none⟩ = some (.int .i64 ln)) (by kernel_rfl) (by kernel_rfl) (fun _ _ _ _ _ h => h) ⟨r1b, dlb⟩ (fun hne => ?_)
      have m0 := fun x : Meets (fun w' => w'.cell? ⟨g, k, none⟩ = some (.int .i64 ln) ∧ w'.cell? ⟨bl, ol + k, none⟩ = some (.int .i64 ln)) => x.property
      have x0 := fun x => (m0 x).1
      have x1 := fun x => (m0 x).2
      clear m0
      simp only [pick, pickN, List.filterMap_cons, List.filterMap_nil, List.getElem?_cons_zero, List.getElem?_cons_succ, Option.map_some]
      repeat (change wpQuiet _ _ _ _ (_ :: _) _; go_big_quiet_step (fail))
      refine wpQuiet_nil ?_
      clear x0 x1 hne
      refine wpSeqP_step (fun K hK => ?_)
      go_simp
      have hkj : (k : Int) + 5 = ((k + 5 : Nat) : Int) := by omega
      rw [hkj]
      refine (word_same _ ws (k + 5) _ (hu2.below (Below.refl _ _).drew) Hw.out (by omega)).mono ?_
      rw [Hd.out]
      rintro e w3 ⟨rfl, rfl⟩
      refine hK.out _ _ (fun _ => ⟨r1b, dlb⟩) ?_
      clear hK K hkj
      refine wpSeqP_step (fun K hK => ?_)
      go_simp
      rw [if_neg (by omega), Int.tmod_eq_emod_of_nonneg hwd.1]
      go_simp
      obtain ⟨r, hr⟩ : ∃ r, d % (un - (ln : Int) + 1) = r := ⟨_, rfl⟩
      rw [hr] at Hup ⊢
      have Hr := Lib.hid hr
      clear hr
      have hrb : 0 ≤ r ∧ (ln : Int) + r ≤ un := by have := Hup.out; omega
      refine hK.out _ _ (fun _ => ⟨r1b, dlb⟩) ?_
      clear hK K
      refine wpSeqP_step (fun K hK => ?_)
      go_simp
      first
        | rw [IntWalk.i64_in _ (by omega)]
        | skip
      rw [← Hup.out]
      refine hK.out _ _ (fun _ => ⟨r1b, dlb⟩) ?_
      clear hK K
      refine wpSeqP_step (fun K hK => ?_)
      go_simp
      refine hK.out _ _ (fun _ => ⟨r1b, dlb⟩) ?_
      clear hK K
      have r2b : w2.frozen? ⟨g, k, none⟩ = false := (hb02.frozen (p := ⟨g, k, none⟩) (by simpa using hg1)).trans r2
      refine wpSeqP_step (fun K hK => ?_)
      go_simp
      refine hK.out _ _ (fun h => by cases h) ?_
      clear hK K
      refine wpSeqP_nil ?_
      refine NoPanic.normal ?_
      have hb3 : Below wb.heap.size wb (w2.setCell ⟨g, k, none⟩ (.int .i64 up)).drew := ((hbr.trans (hb02.mono hbr.size)).setCell (p := ⟨g, k, none⟩) hg0 _).drew
      have own3 : (w2.setCell ⟨g, k, none⟩ (.int .i64 up)).drew.ownsRow wb.heap.size 3 1 (.slice (some ⟨g, 0, none⟩) ss.length cq) ss.length (rowF ss.length (upF ss ws N (k + 1))) := by
        have h2 := own_below Hown.out hb02
        have h3 := (h2.stored k (.int .i64 up)).1
        rw [rowF_set, rowF_congr (g := upF ss ws N (k + 1)) (fun c hc => by rw [← upF_step Hs.out, Hupn.out])] at h3
        exact h3
      have dl3 : (w2.setCell ⟨g, k, none⟩ (.int .i64 up)).drew.cell? ⟨bl, ol + k, none⟩ = some (.int .i64 ln) := by
        show (w2.setCell ⟨g, k, none⟩ (.int .i64 up)).cell? ⟨bl, ol + k, none⟩ = _
        rw [World.cell?_setCell_other _ _ _ _ (by intro e; have q := congrArg Addr.block e; simp only at q; omega)]
        exact dlb
      have Hown3 := Lib.hid own3
      have hw3 := hwb.trans (hb3.mono hwb.size)
      have f0c := cell_below hb3 g0
      have f1c := cell_below hb3 g1
      have nl3 := nl.below hb3
      obtain ⟨w3, hw3e⟩ : ∃ w3, (w2.setCell ⟨g, k, none⟩ (.int .i64 up)).drew = w3 := ⟨_, rfl⟩
      clear own3
      rw [hw3e] at hb3 Hown3 dl3 hw3 f0c f1c nl3 ⊢
      clear hw3e r1 r2 r1a r1b r2b dl dw dla dwa dlb e0 e1 e2 e3 f0 f1 f1a hu2
      by_cases hp : 0 < ln
      · have hpI : (0 : Int) < (ln : Int) := by omega
        go_wp2_with fail
        refine (list_any _ (needL N ss) _ nl3 (by rw [needL_length]; omega)).mono ?_; rintro e w4 ⟨A4x, c4x, rfl, o4, hb4⟩
        rw [needL_length] at o4 ⊢
        obtain ⟨g4, rfl, hg4, hg4'⟩ := own_some o4 (by omega)
        have q1 : w4.cell? ⟨g4, k, none⟩ = some (.int .i64 ln) := by
          rw [o4.cellAt k (by omega), List.getElem?_map, needL_get Hs.out, Hln.out]
          rfl
        have q2 := o4.frozenAt k
        have hst4 := (o4.stored k (.int .i64 ((ln : Int) - 1))).1
        rw [← List.map_set] at hst4
        have hb5 : Below w3.heap.size w3 (w4.setCell ⟨g4, k, none⟩ (.int .i64 ((ln : Int) - 1))) := hb4.setCell (p := ⟨g4, k, none⟩) hg4 _
        have n5 := nums_of_own hst4
        have hb35 := hb3.trans (hb5.mono hb3.size)
        have hw5 := hwb.trans (hb35.mono hwb.size)
        have f0d := cell_below hb5 f0c
        have f1d := cell_below hb5 f1c
        have hrl := right_less (coins := N) (ms := (needL N ss).set k ((ln : Int) - 1)) Hok.out hm1N (by omega) Hs.out (by rw [Hln.out]; exact hp) (by rw [List.getElem?_set, if_pos rfl, if_pos (by rw [needL_length]; omega), Hln.out])
        go_wp2_with fail
        refine (Pool_any m _ ss _ (hv.below hw5) (by omega) Htl.out).mono ?_; rintro e w6 ⟨v6, rfl, s6, hb6⟩
        obtain ⟨A6, c6, rfl, hc6, hm6⟩ := s6.form
        have hb36 := hb5.trans (hb6.mono hb5.size)
        go_wp2_with fail
        refine (Gives.to hrl (PN_any m N _ _ ss _ _ s6 (n5.below hb6) Hf.out hNi)).mono ?_; rintro e w7 ⟨rfl, hb7⟩
        have hb37 := hb36.trans (hb7.mono hb36.size)
        go_wp2
        go_roundw
        case rel => exact ⟨k + 1, by omega, by go_num, hb3.trans (hb37.mono hb3.size), own_below Hown3.out hb37⟩
        case measure => simp [intOf]; omega
      · have hpI : (ln : Int) ≤ (0 : Int) := by omega
        go_wp2
        go_roundw
        case rel => exact ⟨k + 1, by omega, by go_num, hb3, Hown3.out⟩
        case measure => simp [intOf]; omega
    · obtain rfl : k = ss.length := by omega
      rw [upL_row] at hown
      have nu := nums_of_own hown
      go_wp2_with fail
      refine (Pool_any m _ ss _ (hv.below hwo) (by omega) Htl.out).mono ?_; rintro e w1 ⟨v1, rfl, s1, hb1⟩
      obtain ⟨A1, c1, rfl, hc1', hm1'⟩ := s1.form
      have hw1 := hwo.trans (hb1.mono hwo.size)
      have nu1 := nu.below hb1
      replace f0 := cell_below hb1 f0
      replace f1 := cell_below hb1 f1
      go_wp2_with fail
      refine (list_any _ (upL ss ws N) _ nu1 (by rw [upL_length]; omega)).mono ?_; rintro e w2 ⟨A2q, c2q, rfl, o2, hb2⟩
      have n2 := nums_of_own o2
      rw [upL_length] at n2 ⊢
      have hw2 := hw1.trans (hb2.mono hw1.size)
      have nu2 := nu1.below hb2
      replace f0 := cell_below hb2 f0
      replace f1 := cell_below hb2 f1
      go_wp2_with fail
      refine (Gives.to (right_of HEu.out) (PN_any m N _ _ ss _ _ (s1.below hb2) n2 Hf.out hNi)).mono ?_; rintro e w3 ⟨rfl, hb3⟩
      have hw3 := hw2.trans (hb3.mono hw2.size)
      have nu3 := nu2.below hb3
      replace f0 := cell_below hb3 f0
      replace f1 := cell_below hb3 f1
      have nl3 := ((nl.below hbr).below hb1).below (hb2.trans (hb3.mono hb2.size))
      by_cases hz : ss.length = 0
      · have hz1 : ((ss.length : Int) == 0) = true := by simp [hz]
        clear hz
        go_wp2_with fail
        refine (wakes_any _).mono ?_; rintro e w4 ⟨rfl, hb4⟩
        go_wp2
        go_ret
        exact ⟨rfl, hw3.trans (hb4.mono hw3.size)⟩
      · have hz1 : ((ss.length : Int) == 0) = false := beq_eq_false_iff_ne.2 (by omega)
        have Hz := Lib.hid hz
        clear hz
        go_wp2_with fail
        go_loopw [18] (fun i wr => ∃ k : Nat, k ≤ 2 ∧ i = .int .i64 k ∧ Below w3.heap.size w3 wr) (fun i wr => 2 - (intOf i).toNat)
        case atStart => exact ⟨0, by omega, rfl, Below.refl _ _⟩
        case round =>
          obtain ⟨k, hk2, rfl, hbk⟩ := hrel
          obtain ⟨wo, rfl⟩ : ∃ wo : World, wo = wr := ⟨_, rfl⟩
          have hwk := hw3.trans (hbk.mono hw3.size)
          have f0k := cell_below hbk f0
          have f1k := cell_below hbk f1
          have nlk := nl3.below hbk
          have nuk := nu3.below hbk
          by_cases hlt : k < 2
          · have hltI : (k : Int) < 2 := by omega
            have hms1 : ∀ (j : Nat) (s : Strat), ss[j]? = some s → 0 ≤ (needL N ss)[j]?.getD 0 ∧ (needL N ss)[j]?.getD 0 ≤ s.hi - sumL s.seen := fun j s hs => by
              obtain ⟨x, hx, hx1, hx2⟩ := HEn.out.one j s hs
              rw [hx, Option.getD_some]
              exact ⟨by omega, hx1⟩
            have hms2 : ∀ (j : Nat) (s : Strat), ss[j]? = some s → 0 ≤ (upL ss ws N)[j]?.getD 0 ∧ (upL ss ws N)[j]?.getD 0 ≤ s.hi - sumL s.seen := fun j s hs => by
              obtain ⟨x, hx, hx1, hx2⟩ := HEu.out.one j s hs
              rw [hx, Option.getD_some]
              exact ⟨by omega, hx1⟩
            have Hms1 := Lib.hid hms1
            have Hms2 := Lib.hid hms2
            clear hms1 hms2
            go_wp2_with fail
            refine (spread_any m _ _ _ ss (needL N ss) ws _ (hv.below hwk) nlk (hu.below hwk) Hw.out Hf.out (needL_length _ _) Hms1.out).mono ?_; rintro e w4 ⟨v4, rfl, s4, hb4⟩
            have hw4 := hwk.trans (hb4.mono hwk.size)
            have f0l := cell_below hb4 f0k
            have f1l := cell_below hb4 f1k
            have nul := nuk.below hb4
            have hsz4 := World.block_lt_of_cell? _ _ f0l
            dsimp only at hsz4
            obtain ⟨A4q, c4q, rfl, hc4q, hm4q⟩ := s4.form
            have hsp1 := spread_fault (ws := ws) Hf.out HEn.out
            have hsw1 := spread_width (ws := ws) Hok.out hm1N (by omega) HEn.out (spreadL m ss (needL N ss) ws).length
            have hsl1 : ∀ (j : Nat) (s : Strat), (spreadL m ss (needL N ss) ws)[j]? = some s → s.seen.length ≤ 1000 := fun j s hs => by
              have := (stratB_iff.1 ((fault_zero hsp1).2.2.2 j s hs)).2.2.2.2.1
              omega
            have hsp2 := spread_fault (ws := ws) Hf.out HEu.out
            have hsw2 := spread_width (ws := ws) Hok.out hm1N (by omega) HEu.out (spreadL m ss (upL ss ws N) ws).length
            have hsl2 : ∀ (j : Nat) (s : Strat), (spreadL m ss (upL ss ws N) ws)[j]? = some s → s.seen.length ≤ 1000 := fun j s hs => by
              have := (stratB_iff.1 ((fault_zero hsp2).2.2.2 j s hs)).2.2.2.2.1
              omega
            have hl1 : (spreadL m ss (needL N ss) ws).length = ss.length := spreadL_len _ _ _ _
            have hl2 : (spreadL m ss (upL ss ws N) ws).length = ss.length := spreadL_len _ _ _ _
            obtain ⟨s1L, hs1L⟩ : ∃ l, spreadL m ss (needL N ss) ws = l := ⟨_, rfl⟩
            obtain ⟨s2L, hs2L⟩ : ∃ l, spreadL m ss (upL ss ws N) ws = l := ⟨_, rfl⟩
            rw [hs1L] at hsp1 hsw1 hsl1 hl1 s4 ⊢
            rw [hs2L] at hsp2 hsw2 hsl2 hl2
            have Hs2L := Lib.hid hs2L
            have Hsp1 := Lib.hid hsp1
            have Hsp2 := Lib.hid hsp2
            have Hsl1 := Lib.hid hsl1
            have Hsl2 := Lib.hid hsl2
            have Hl1 := Lib.hid hl1
            have Hl2 := Lib.hid hl2
            clear hs1L hs2L hsp1 hsp2 hsl1 hsl2 hl1 hl2
            by_cases hk1 : k = 1
            · have hk1I : ((k : Int) == 1) = true := by simp [hk1]
              clear hk1
              go_wp2_with fail
              have hba4 : Below w4.heap.size w4 (w4.alloc (.cells #[.int .i64 m, .slice A4q s1L.length c4q] 24)) := (Below.refl _ _).alloc (Nat.le_refl _) _
              refine (spread_own m _ _ _ ss (upL ss ws N) ws _ ((hv.below hw4).below hba4) (nul.below hba4) ((hu.below hw4).below hba4) Hw.out Hf.out (upL_length _ _ _) Hms2.out).mono ?_
              rw [Hs2L.out]
              rintro e w5 ⟨A5q, c5q, us5, rfl, o5, so5, hb5⟩
              have z0 : w5.cell? ⟨w4.heap.size, 0, none⟩ = some (.int .i64 m) := cell_below hb5 (by simp [go_sem])
              have z1 : w5.cell? ⟨w4.heap.size, 1, none⟩ = some (.slice A4q s1L.length c4q) := cell_below hb5 (by simp [go_sem])
              have z2 : w5.frozen? ⟨w4.heap.size, 0, none⟩ = false := by rw [hb5.frozen (p := ⟨w4.heap.size, 0, none⟩) (by simp)]; simp [go_sem]
              have z3 : w5.frozen? ⟨w4.heap.size, 1, none⟩ = false := by rw [hb5.frozen (p := ⟨w4.heap.size, 1, none⟩) (by simp)]; simp [go_sem]
              have hb45 : Below w4.heap.size w4 ((w5.setCell ⟨w4.heap.size, 0, none⟩ (.int .i64 m)).setCell ⟨w4.heap.size, 1, none⟩ (.slice A5q s2L.length c5q)) :=
                ((hba4.trans (hb5.mono (by simp))).setCell (p := ⟨w4.heap.size, 0, none⟩) (by simp) _).setCell (p := ⟨w4.heap.size, 1, none⟩) (by simp) _
              have s5' : StrataAt ((w5.setCell ⟨w4.heap.size, 0, none⟩ (.int .i64 m)).setCell ⟨w4.heap.size, 1, none⟩ (.slice A5q s2L.length c5q)) (.slice A5q s2L.length c5q) s2L :=
                strata_of_own (ownsRow_setCell_below (ownsRow_setCell_below o5 (by simp) _) (by simp) _) ((so5.set (by simp) _).set (by simp) _)
              have hw5 := hw4.trans (hb45.mono hw4.size)
              go_wp2_with fail
              refine (Pool_any m _ s2L _ s5' (by rw [Hl2.out]; omega) Hsl2.out).mono ?_; rintro e w6 ⟨v6, rfl, s6, hb6⟩
              have hw6 := hw5.trans (hb6.mono hw5.size)
              go_wp2_with fail
              refine (Widest_any m _ s2L _ s6 Hsp2.out).mono ?_
              rw [if_neg (by rw [Hl2.out]; exact Hz.out)]
              rintro e w7 ⟨rfl, hb7⟩
              go_wp2
              go_roundw
              case rel => exact ⟨k + 1, by omega, by go_num, (hbk.trans (hb4.mono hbk.size)).trans (((hb45.trans (hb6.mono hb45.size)).trans (hb7.mono (by have := hb45.size; have := hb6.size; omega))).mono (by have := hbk.size; have := hb4.size; omega))⟩
              case measure => simp [intOf]; omega
            · have hk1I : ((k : Int) == 1) = false := beq_eq_false_iff_ne.2 (by omega)
              clear hk1
              have hba4 : Below w4.heap.size w4 (w4.alloc (.cells #[.int .i64 m, .slice A4q s1L.length c4q] 24)) := (Below.refl _ _).alloc (Nat.le_refl _) _
              have hw5 := hw4.trans (hba4.mono hw4.size)
              go_wp2_with fail
              refine (Pool_any m _ s1L _ (s4.below hba4) (by rw [Hl1.out]; omega) Hsl1.out).mono ?_; rintro e w6 ⟨v6, rfl, s6, hb6⟩
              have hw6 := hw5.trans (hb6.mono hw5.size)
              go_wp2_with fail
              refine (Widest_any m _ s1L _ s6 Hsp1.out).mono ?_
              rw [if_neg (by rw [Hl1.out]; exact Hz.out)]
              rintro e w7 ⟨rfl, hb7⟩
              go_wp2
              go_roundw
              case rel => exact ⟨k + 1, by omega, by go_num, (hbk.trans (hb4.mono hbk.size)).trans (((hba4.trans (hb6.mono hba4.size)).trans (hb7.mono (by have := hba4.size; have := hb6.size; omega))).mono (by have := hbk.size; have := hb4.size; omega))⟩
              case measure => simp [intOf]; omega
          · obtain rfl : k = 2 := by omega
            go_wp2_with fail
            refine (wakes_any _).mono ?_; rintro e w4 ⟨rfl, hb4⟩
            go_wp2
            go_ret
            exact ⟨rfl, hwk.trans (hb4.mono hwk.size)⟩

theorem Samples_law (n : Int) (coins more : Int) (v uw : Value) (ss : List Strat) (ws : List Int) (w : World) (hv : StrataAt w v ss) (hu : NumsAt .u16 w uw ws) (hw : WordsOk ws) (hc0 : 0 ≤ coins) (hc1 : coins ≤ 4294967295) (hm0 : 0 ≤ more) (hm1 : more ≤ 4294967295) :
    Calls Try.prog 12 #[.agg #[.int .i64 n, v], .int .u32 coins, .int .u32 more, uw] w (Gives w (.bool true)) := by
  cases hr : readyB n ss with
  | false => exact Samples_not n coins more v uw ss ws w hv hu hw hr
  | true =>
    have hf : faultI n ss = 0 := by
      have : thinB ss = true ∧ faultI n ss = 0 := by simpa [readyB] using hr
      exact this.2
    have h0 := (fault_zero hf).2.1
    obtain ⟨m, rfl⟩ : ∃ m : Nat, n = m := ⟨n.toNat, by omega⟩
    by_cases h : 1 + coins % 10000000 + more % 10000000 < 10000000
    · exact Samples_lo m coins more v uw ss ws w hv hu hw _ rfl h hc0 hc1 hm0 hm1 hr
    · exact Samples_hi m coins more v uw ss ws w hv hu hw _ rfl (by omega) hc0 hc1 hm0 hm1 hr
end Go.Proofs.Ytobeffjdfhkjeaa
