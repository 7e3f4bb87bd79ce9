import Derived.Test.YtobeffjdfhkjeaaRe
import Derived.Test.YtobeffjdfhkjeaaKa
import Derived.Test.YtobeffjdfhkjeaaW5
set_option linter.unusedVariables false
set_option linter.unusedSimpArgs false
namespace Go.Proofs.Ytobeffjdfhkjeaa
open Go Go.Proofs Go.RowKit

theorem Claims_not (n : Int) (v uw u : Value) (ss : List Strat) (ws : List Int) (ll : List (List Int)) (w : World) (hv : StrataAt w v ss) (hz : NumsAt .u16 w uw ws) (hw : WordsOk ws) (hu : RowsAt w u ll) (ht : readyB n ss = false) :
    Calls Try.prog 9 #[.agg #[.int .i64 n, v], uw, u] w (Gives w (.bool true)) := by
  have hb0 : Below w.heap.size w (w.alloc (.cells #[.int .i64 n, v] 24)) := (Below.refl _ _).alloc (Nat.le_refl _) _
  obtain ⟨A, c, rfl, hc, hm⟩ := hv.form
  go_enter Try.func9, Try.ntmps9
  have g0 : (w.alloc (.cells #[.int .i64 n, .slice A ss.length c] 24)).cell? ⟨w.heap.size, 0, none⟩ = some (.int .i64 n) := by simp [go_sem]
  have g1 : (w.alloc (.cells #[.int .i64 n, .slice A ss.length c] 24)).cell? ⟨w.heap.size, 1, none⟩ = some (.slice A ss.length c) := by simp [go_sem]
  go_wp2_with fail
  refine (Gives.to ht (ready_any n _ ss _ (hv.below hb0))).mono ?_; rintro e w1 ⟨rfl, hb1⟩
  have hw1 := hb0.trans (hb1.mono hb0.size)
  replace g0 := cell_below hb1 g0
  replace g1 := cell_below hb1 g1
  go_wp2_with fail
  refine (wakes_any _).mono ?_; rintro e w2 ⟨rfl, hb2⟩
  have hw2 := hw1.trans (hb2.mono hw1.size)
  replace g0 := cell_below hb2 g0
  replace g1 := cell_below hb2 g1
  go_wp2
  go_ret
  exact ⟨rfl, hw2⟩

theorem Claims_short (n : Int) (v uw u : Value) (ss : List Strat) (ws : List Int) (ll : List (List Int)) (w : World) (hv : StrataAt w v ss) (hz : NumsAt .u16 w uw ws) (hw : WordsOk ws) (hu : RowsAt w u ll) (ht : readyB n ss = true) (hs : shortB ll = false) :
    Calls Try.prog 9 #[.agg #[.int .i64 n, v], uw, u] w (Gives w (.bool true)) := by
  have hb0 : Below w.heap.size w (w.alloc (.cells #[.int .i64 n, v] 24)) := (Below.refl _ _).alloc (Nat.le_refl _) _
  obtain ⟨A, c, rfl, hc, hm⟩ := hv.form
  go_enter Try.func9, Try.ntmps9
  have g0 : (w.alloc (.cells #[.int .i64 n, .slice A ss.length c] 24)).cell? ⟨w.heap.size, 0, none⟩ = some (.int .i64 n) := by simp [go_sem]
  have g1 : (w.alloc (.cells #[.int .i64 n, .slice A ss.length c] 24)).cell? ⟨w.heap.size, 1, none⟩ = some (.slice A ss.length c) := by simp [go_sem]
  go_wp2_with fail
  refine (Gives.to ht (ready_any n _ ss _ (hv.below hb0))).mono ?_; rintro e w1 ⟨rfl, hb1⟩
  have hw1 := hb0.trans (hb1.mono hb0.size)
  replace g0 := cell_below hb1 g0
  replace g1 := cell_below hb1 g1
  go_wp2_with fail
  refine (Gives.to hs (short_any _ ll _ (hu.below hw1))).mono ?_; rintro e w2 ⟨rfl, hb2⟩
  have hw2 := hw1.trans (hb2.mono hw1.size)
  replace g0 := cell_below hb2 g0
  replace g1 := cell_below hb2 g1
  go_wp2_with fail
  refine (wakes_any _).mono ?_; rintro e w3 ⟨rfl, hb3⟩
  have hw3 := hw2.trans (hb3.mono hw2.size)
  replace g0 := cell_below hb3 g0
  replace g1 := cell_below hb3 g1
  go_wp2
  go_ret
  exact ⟨rfl, hw3⟩

set_option maxRecDepth 100000 in
set_option maxHeartbeats 3200000 in
theorem Claims_a (n : Int) (v uw u : Value) (ss : List Strat) (ws : List Int) (ll : List (List Int)) (w : World) (hv : StrataAt w v ss) (hz : NumsAt .u16 w uw ws) (hw : WordsOk ws) (hu : RowsAt w u ll) (hr : readyB n ss = true) (hs : shortB ll = true) (hl : listsB n ss.length ll = false) :
    Calls Try.prog 9 #[.agg #[.int .i64 n, v], uw, u] w (Gives w (.bool true)) := by
  have hb0 : Below w.heap.size w (w.alloc (.cells #[.int .i64 n, v] 24)) := (Below.refl _ _).alloc (Nat.le_refl _) _
  obtain ⟨A, c, rfl, hc, hm⟩ := hv.form
  obtain ⟨ht, hf⟩ := ready_iff.1 hr
  obtain ⟨tl, tl9⟩ := thin_len ht
  have Htl := Lib.hid (fun (j : Nat) (s : Strat) (h : ss[j]? = some s) => Nat.le_trans (tl9 j s h) (by decide : 9 ≤ 1000))
  clear tl9
  obtain ⟨sl, sl9⟩ := short_len hs
  have Hsl := Lib.hid (fun (j : Nat) (l : List Int) (h : ll[j]? = some l) => Nat.le_trans (sl9 j l h) (by decide : 9 ≤ 1000))
  clear sl9
  have hs8 := (fault_zero hf).1
  have hn5 := (fault_zero hf).2.2.1
  have hn1 := (fault_zero hf).2.1
  obtain ⟨Aw, cw, rfl, hcw, hmw⟩ := hz.form
  obtain ⟨Au, cu, rfl, hcu, hmu⟩ := hu.form
  have htr : truthB n ss ll = false := by simp [truthB, hl]
  have Hf := Lib.hid hf
  have Htr := Lib.hid htr
  have Hl := Lib.hid hl
  clear hf htr hl ht
  go_enter Try.func9, Try.ntmps9
  have g0 : (w.alloc (.cells #[.int .i64 n, .slice A ss.length c] 24)).cell? ⟨w.heap.size, 0, none⟩ = some (.int .i64 n) := by simp [go_sem]
  have g1 : (w.alloc (.cells #[.int .i64 n, .slice A ss.length c] 24)).cell? ⟨w.heap.size, 1, none⟩ = some (.slice A ss.length c) := by simp [go_sem]
  go_wp2_with fail
  refine (Gives.to hr (ready_any n _ ss _ (hv.below hb0))).mono ?_; rintro e w1 ⟨rfl, hb1⟩
  have hw1 := hb0.trans (hb1.mono hb0.size)
  replace g0 := cell_below hb1 g0
  replace g1 := cell_below hb1 g1
  go_wp2_with fail
  refine (Gives.to hs (short_any _ ll _ (hu.below hw1))).mono ?_; rintro e w2 ⟨rfl, hb2⟩
  have hw2 := hw1.trans (hb2.mono hw1.size)
  replace g0 := cell_below hb2 g0
  replace g1 := cell_below hb2 g1
  clear hr hs
  go_wp2_with fail
  refine wp_region_noPanic ?_
  refine wp_region_ph [([0, 2, 3], [1, 4, 5, 6]), ([7, 8], [9, 10])] (fun _ => true) (fun w' => w'.cell? ⟨w.heap.size, 0, none⟩ = some (.int .i64 n) ∧ w'.cell? ⟨w.heap.size, 1, none⟩ = some (.slice A ss.length c)) (by kernel_rfl) (by kernel_rfl) (fun _ _ _ _ _ h => h) ?_
  replace g0 := cell_below (Below.refl _ _).drew g0
  replace g1 := cell_below (Below.refl _ _).drew g1
  have hd3 := hw2.drew
  refine wpPh_cons ⟨g0, g1⟩ (fun hne => ?_)
  have m0 := fun x : Meets (fun w' => w'.cell? ⟨w.heap.size, 0, none⟩ = some (.int .i64 n) ∧ w'.cell? ⟨w.heap.size, 1, none⟩ = some (.slice A ss.length c)) => x.property
  have x0 := fun x => (m0 x).1
  have x1 := fun x => (m0 x).2
  clear m0
  simp only [pick, pickN, List.filterMap_cons, List.filterMap_nil, List.getElem?_cons_zero, List.getElem?_cons_succ, Option.map_some]
  repeat (change wpQuiet _ _ _ _ (_ :: _) _; go_big_quiet_step (fail))
  refine wpQuiet_nil ?_
  clear x0 x1 hne
  refine wpSeqK_step (fun K hK => ?_)
  go_simp
  refine (Pool_any n _ ss _ (hv.below hd3) (by omega) Htl.out).mono ?_; rintro e w3 ⟨v3, rfl, s3, hb3⟩
  have hw3 := hd3.trans (hb3.mono hd3.size)
  replace g0 := cell_below hb3 g0
  replace g1 := cell_below hb3 g1
  refine hK.out _ _ (fun _ => ⟨g0, g1⟩) ?_
  clear hK K
  obtain ⟨A3, c3, rfl, hc3, hm3⟩ := s3.form
  refine wpSeqK_step (fun K hK => ?_)
  go_simp
  refine (Truly_any n _ _ ss ws _ (hv.below hw3) (hz.below hw3) hw Hf.out).mono ?_; rintro e w4 ⟨ll4, A4, c4, us4, htr4, rfl, o4, q4, hb4⟩
  have hw4 := hw3.trans (hb4.mono hw3.size)
  replace g0 := cell_below hb4 g0
  replace g1 := cell_below hb4 g1
  replace s3 := s3.below hb4
  refine hK.out _ _ (fun _ => ⟨g0, g1⟩) ?_
  clear hK K
  have r4 := rows_of_own o4 q4
  simp only [truthB, Bool.and_eq_true] at htr4
  obtain ⟨hlt4, hpt4⟩ := htr4
  have Hlt4 := Lib.hid hlt4
  have Hnil4 := Lib.hid (refusedL_nil hpt4 ss.length (by have := (fit_of Hf.out hlt4).len; omega))
  clear hlt4 hpt4
  refine wpSeqK_step (fun K hK => ?_)
  go_simp
  refine (Refused_ok n _ _ ss ll4 _ s3 r4 Hf.out Hlt4.out).mono ?_; rintro e w5 ⟨A5, c5, rfl, o5, hb5⟩
  have hw5 := hw4.trans (hb5.mono hw4.size)
  replace g0 := cell_below hb5 g0
  replace g1 := cell_below hb5 g1
  replace s3 := s3.below hb5
  rw [Hnil4.out]
  refine hK.out _ _ (fun _ => ⟨g0, g1⟩) ?_
  clear hK K
  refine wpSeqK_step (fun K hK => ?_)
  go_simp
  refine hK.out _ _ (fun _ => ⟨g0, g1⟩) ?_
  clear hK K
  refine wpSeqK_nil ?_
  refine wpPh_cons ⟨g0, g1⟩ (fun hne => ?_)
  have m0 := fun x : Meets (fun w' => w'.cell? ⟨w.heap.size, 0, none⟩ = some (.int .i64 n) ∧ w'.cell? ⟨w.heap.size, 1, none⟩ = some (.slice A ss.length c)) => x.property
  have x0 := fun x => (m0 x).1
  have x1 := fun x => (m0 x).2
  clear m0
  simp only [pick, pickN, List.filterMap_cons, List.filterMap_nil, List.getElem?_cons_zero, List.getElem?_cons_succ, Option.map_some]
  repeat (change wpQuiet _ _ _ _ (_ :: _) _; go_big_quiet_step (fail))
  refine wpQuiet_nil ?_
  clear x0 x1 hne
  refine wpSeqK_step (fun K hK => ?_)
  go_simp
  refine hK.out _ _ (fun _ => ⟨g0, g1⟩) ?_
  clear hK K
  refine wpSeqK_step (fun K hK => ?_)
  go_simp
  refine hK.out _ _ (fun _ => ⟨g0, g1⟩) ?_
  clear hK K
  refine wpSeqK_nil ?_
  refine wpPh_nil ?_
  refine NoPanic.normal ?_
  go_wp2_with fail
  refine (Pool_any n _ ss _ (hv.below hw5) (by omega) Htl.out).mono ?_; rintro e w6 ⟨v6, rfl, s6, hb6⟩
  have hw6 := hw5.trans (hb6.mono hw5.size)
  replace g0 := cell_below hb6 g0
  replace g1 := cell_below hb6 g1
  obtain ⟨A6, c6, rfl, hc6, hm6⟩ := s6.form
  go_wp2_with fail
  refine (rows_any _ ll _ (hu.below hw6) (by omega) Hsl.out).mono ?_; rintro e w7 ⟨A7, c7, us7, rfl, o7, q7, hb7⟩
  have hw7 := hw6.trans (hb7.mono hw6.size)
  replace g0 := cell_below hb7 g0
  replace g1 := cell_below hb7 g1
  replace s6 := s6.below hb7
  have r7 := rows_of_own o7 q7
  go_wp2_with fail
  refine (Refused_range n _ _ ss ll _ s6 r7 Hf.out Hl.out).mono ?_; rintro e w8 ⟨rfl, hb8⟩
  have hw8 := hw7.trans (hb8.mono hw7.size)
  replace g0 := cell_below hb8 g0
  replace g1 := cell_below hb8 g1
  replace s6 := s6.below hb8
  replace r7 := r7.below hb8
  go_wp2_with fail
  refine (Pool_any n _ ss _ (hv.below hw8) (by omega) Htl.out).mono ?_; rintro e w9 ⟨v9, rfl, s9, hb9⟩
  have hw9 := hw8.trans (hb9.mono hw8.size)
  replace g0 := cell_below hb9 g0
  replace g1 := cell_below hb9 g1
  obtain ⟨A9, c9, rfl, hc9, hm9⟩ := s9.form
  go_wp2_with fail
  refine (rows_any _ ll _ (hu.below hw9) (by omega) Hsl.out).mono ?_; rintro e w10 ⟨A10, c10, us10, rfl, o10, q10, hb10⟩
  have hw10 := hw9.trans (hb10.mono hw9.size)
  replace g0 := cell_below hb10 g0
  replace g1 := cell_below hb10 g1
  replace s9 := s9.below hb10
  have r10 := rows_of_own o10 q10
  go_wp2_with fail
  refine (Get_range n _ _ ss ll _ s9 r10 Hf.out Htr.out).mono ?_; rintro e w11 ⟨rfl, hb11⟩
  have hw11 := hw10.trans (hb11.mono hw10.size)
  replace g0 := cell_below hb11 g0
  replace g1 := cell_below hb11 g1
  replace s9 := s9.below hb11
  replace r10 := r10.below hb11
  go_wp2_with fail
  refine (wakes_any _).mono ?_; rintro e w12 ⟨rfl, hb12⟩
  have hw12 := hw11.trans (hb12.mono hw11.size)
  replace g0 := cell_below hb12 g0
  replace g1 := cell_below hb12 g1
  go_wp2
  go_ret
  exact ⟨rfl, hw12⟩

set_option maxRecDepth 100000 in
set_option maxHeartbeats 3200000 in
theorem Claims_b (n : Int) (v uw u : Value) (ss : List Strat) (ws : List Int) (ll : List (List Int)) (w : World) (hv : StrataAt w v ss) (hz : NumsAt .u16 w uw ws) (hw : WordsOk ws) (hu : RowsAt w u ll) (hr : readyB n ss = true) (hs : shortB ll = true) (hl : listsB n ss.length ll = true) (hp : partsB ss ll = true) :
    Calls Try.prog 9 #[.agg #[.int .i64 n, v], uw, u] w (Gives w (.bool true)) := by
  have hb0 : Below w.heap.size w (w.alloc (.cells #[.int .i64 n, v] 24)) := (Below.refl _ _).alloc (Nat.le_refl _) _
  obtain ⟨A, c, rfl, hc, hm⟩ := hv.form
  obtain ⟨ht, hf⟩ := ready_iff.1 hr
  obtain ⟨tl, tl9⟩ := thin_len ht
  have Htl := Lib.hid (fun (j : Nat) (s : Strat) (h : ss[j]? = some s) => Nat.le_trans (tl9 j s h) (by decide : 9 ≤ 1000))
  clear tl9
  obtain ⟨sl, sl9⟩ := short_len hs
  have Hsl := Lib.hid (fun (j : Nat) (l : List Int) (h : ll[j]? = some l) => Nat.le_trans (sl9 j l h) (by decide : 9 ≤ 1000))
  clear sl9
  have hs8 := (fault_zero hf).1
  have hn5 := (fault_zero hf).2.2.1
  have hn1 := (fault_zero hf).2.1
  obtain ⟨Aw, cw, rfl, hcw, hmw⟩ := hz.form
  obtain ⟨Au, cu, rfl, hcu, hmu⟩ := hu.form
  have htr : truthB n ss ll = true := by simp [truthB, hl, hp]
  have Hnil := Lib.hid (refusedL_nil hp ss.length (by have := (fit_of hf hl).len; omega))
  have Hf := Lib.hid hf
  have Htr := Lib.hid htr
  have Hl := Lib.hid hl
  clear hf htr hl ht hp
  go_enter Try.func9, Try.ntmps9
  have g0 : (w.alloc (.cells #[.int .i64 n, .slice A ss.length c] 24)).cell? ⟨w.heap.size, 0, none⟩ = some (.int .i64 n) := by simp [go_sem]
  have g1 : (w.alloc (.cells #[.int .i64 n, .slice A ss.length c] 24)).cell? ⟨w.heap.size, 1, none⟩ = some (.slice A ss.length c) := by simp [go_sem]
  go_wp2_with fail
  refine (Gives.to hr (ready_any n _ ss _ (hv.below hb0))).mono ?_; rintro e w1 ⟨rfl, hb1⟩
  have hw1 := hb0.trans (hb1.mono hb0.size)
  replace g0 := cell_below hb1 g0
  replace g1 := cell_below hb1 g1
  go_wp2_with fail
  refine (Gives.to hs (short_any _ ll _ (hu.below hw1))).mono ?_; rintro e w2 ⟨rfl, hb2⟩
  have hw2 := hw1.trans (hb2.mono hw1.size)
  replace g0 := cell_below hb2 g0
  replace g1 := cell_below hb2 g1
  clear hr hs
  go_wp2_with fail
  refine wp_region_noPanic ?_
  refine wp_region_ph [([0, 2, 3], [1, 4, 5, 6]), ([7, 8], [9, 10])] (fun _ => true) (fun w' => w'.cell? ⟨w.heap.size, 0, none⟩ = some (.int .i64 n) ∧ w'.cell? ⟨w.heap.size, 1, none⟩ = some (.slice A ss.length c)) (by kernel_rfl) (by kernel_rfl) (fun _ _ _ _ _ h => h) ?_
  replace g0 := cell_below (Below.refl _ _).drew g0
  replace g1 := cell_below (Below.refl _ _).drew g1
  have hd3 := hw2.drew
  refine wpPh_cons ⟨g0, g1⟩ (fun hne => ?_)
  have m0 := fun x : Meets (fun w' => w'.cell? ⟨w.heap.size, 0, none⟩ = some (.int .i64 n) ∧ w'.cell? ⟨w.heap.size, 1, none⟩ = some (.slice A ss.length c)) => x.property
  have x0 := fun x => (m0 x).1
  have x1 := fun x => (m0 x).2
  clear m0
  simp only [pick, pickN, List.filterMap_cons, List.filterMap_nil, List.getElem?_cons_zero, List.getElem?_cons_succ, Option.map_some]
  repeat (change wpQuiet _ _ _ _ (_ :: _) _; go_big_quiet_step (fail))
  refine wpQuiet_nil ?_
  clear x0 x1 hne
  refine wpSeqK_step (fun K hK => ?_)
  go_simp
  refine (Pool_any n _ ss _ (hv.below hd3) (by omega) Htl.out).mono ?_; rintro e w3 ⟨v3, rfl, s3, hb3⟩
  have hw3 := hd3.trans (hb3.mono hd3.size)
  replace g0 := cell_below hb3 g0
  replace g1 := cell_below hb3 g1
  refine hK.out _ _ (fun _ => ⟨g0, g1⟩) ?_
  clear hK K
  obtain ⟨A3, c3, rfl, hc3, hm3⟩ := s3.form
  refine wpSeqK_step (fun K hK => ?_)
  go_simp
  refine (Truly_any n _ _ ss ws _ (hv.below hw3) (hz.below hw3) hw Hf.out).mono ?_; rintro e w4 ⟨ll4, A4, c4, us4, htr4, rfl, o4, q4, hb4⟩
  have hw4 := hw3.trans (hb4.mono hw3.size)
  replace g0 := cell_below hb4 g0
  replace g1 := cell_below hb4 g1
  replace s3 := s3.below hb4
  refine hK.out _ _ (fun _ => ⟨g0, g1⟩) ?_
  clear hK K
  have r4 := rows_of_own o4 q4
  simp only [truthB, Bool.and_eq_true] at htr4
  obtain ⟨hlt4, hpt4⟩ := htr4
  have Hlt4 := Lib.hid hlt4
  have Hnil4 := Lib.hid (refusedL_nil hpt4 ss.length (by have := (fit_of Hf.out hlt4).len; omega))
  clear hlt4 hpt4
  refine wpSeqK_step (fun K hK => ?_)
  go_simp
  refine (Refused_ok n _ _ ss ll4 _ s3 r4 Hf.out Hlt4.out).mono ?_; rintro e w5 ⟨A5, c5, rfl, o5, hb5⟩
  have hw5 := hw4.trans (hb5.mono hw4.size)
  replace g0 := cell_below hb5 g0
  replace g1 := cell_below hb5 g1
  replace s3 := s3.below hb5
  rw [Hnil4.out]
  refine hK.out _ _ (fun _ => ⟨g0, g1⟩) ?_
  clear hK K
  refine wpSeqK_step (fun K hK => ?_)
  go_simp
  refine hK.out _ _ (fun _ => ⟨g0, g1⟩) ?_
  clear hK K
  refine wpSeqK_nil ?_
  refine wpPh_cons ⟨g0, g1⟩ (fun hne => ?_)
  have m0 := fun x : Meets (fun w' => w'.cell? ⟨w.heap.size, 0, none⟩ = some (.int .i64 n) ∧ w'.cell? ⟨w.heap.size, 1, none⟩ = some (.slice A ss.length c)) => x.property
  have x0 := fun x => (m0 x).1
  have x1 := fun x => (m0 x).2
  clear m0
  simp only [pick, pickN, List.filterMap_cons, List.filterMap_nil, List.getElem?_cons_zero, List.getElem?_cons_succ, Option.map_some]
  repeat (change wpQuiet _ _ _ _ (_ :: _) _; go_big_quiet_step (fail))
  refine wpQuiet_nil ?_
  clear x0 x1 hne
  refine wpSeqK_step (fun K hK => ?_)
  go_simp
  refine hK.out _ _ (fun _ => ⟨g0, g1⟩) ?_
  clear hK K
  refine wpSeqK_step (fun K hK => ?_)
  go_simp
  refine hK.out _ _ (fun _ => ⟨g0, g1⟩) ?_
  clear hK K
  refine wpSeqK_nil ?_
  refine wpPh_nil ?_
  refine NoPanic.normal ?_
  go_wp2_with fail
  refine (Pool_any n _ ss _ (hv.below hw5) (by omega) Htl.out).mono ?_; rintro e w6 ⟨v6, rfl, s6, hb6⟩
  have hw6 := hw5.trans (hb6.mono hw5.size)
  replace g0 := cell_below hb6 g0
  replace g1 := cell_below hb6 g1
  obtain ⟨A6, c6, rfl, hc6, hm6⟩ := s6.form
  go_wp2_with fail
  refine (rows_any _ ll _ (hu.below hw6) (by omega) Hsl.out).mono ?_; rintro e w7 ⟨A7, c7, us7, rfl, o7, q7, hb7⟩
  have hw7 := hw6.trans (hb7.mono hw6.size)
  replace g0 := cell_below hb7 g0
  replace g1 := cell_below hb7 g1
  replace s6 := s6.below hb7
  have r7 := rows_of_own o7 q7
  go_wp2_with fail
  refine (Refused_ok n _ _ ss ll _ s6 r7 Hf.out Hl.out).mono ?_; rintro e w8 ⟨A8, c8, rfl, o8, hb8⟩
  have hw8 := hw7.trans (hb8.mono hw7.size)
  replace g0 := cell_below hb8 g0
  replace g1 := cell_below hb8 g1
  replace s6 := s6.below hb8
  replace r7 := r7.below hb8
  rw [Hnil.out]
  go_wp2_with fail
  refine (Pool_any n _ ss _ (hv.below hw8) (by omega) Htl.out).mono ?_; rintro e w9 ⟨v9, rfl, s9, hb9⟩
  have hw9 := hw8.trans (hb9.mono hw8.size)
  replace g0 := cell_below hb9 g0
  replace g1 := cell_below hb9 g1
  obtain ⟨A9, c9, rfl, hc9, hm9⟩ := s9.form
  go_wp2_with fail
  refine (rows_any _ ll _ (hu.below hw9) (by omega) Hsl.out).mono ?_; rintro e w10 ⟨A10, c10, us10, rfl, o10, q10, hb10⟩
  have hw10 := hw9.trans (hb10.mono hw9.size)
  replace g0 := cell_below hb10 g0
  replace g1 := cell_below hb10 g1
  replace s9 := s9.below hb10
  have r10 := rows_of_own o10 q10
  obtain ⟨m, rfl⟩ : ∃ m : Nat, n = m := ⟨n.toNat, by omega⟩
  go_wp2_with fail
  refine (Get_ok m _ _ ss ll _ s9 r10 Hf.out Htr.out).mono ?_; rintro e w11 ⟨A11, c11, rfl, o11, hb11⟩
  have hw11 := hw10.trans (hb11.mono hw10.size)
  replace g0 := cell_below hb11 g0
  replace g1 := cell_below hb11 g1
  replace s9 := s9.below hb11
  replace r10 := r10.below hb11
  go_wp2_with fail
  refine (wakes_any _).mono ?_; rintro e w12 ⟨rfl, hb12⟩
  have hw12 := hw11.trans (hb12.mono hw11.size)
  replace g0 := cell_below hb12 g0
  replace g1 := cell_below hb12 g1
  go_wp2
  go_ret
  exact ⟨rfl, hw12⟩

set_option maxRecDepth 100000 in
set_option maxHeartbeats 3200000 in
theorem Claims_c (n : Int) (v uw u : Value) (ss : List Strat) (ws : List Int) (ll : List (List Int)) (w : World) (hv : StrataAt w v ss) (hz : NumsAt .u16 w uw ws) (hw : WordsOk ws) (hu : RowsAt w u ll) (hr : readyB n ss = true) (hs : shortB ll = true) (hl : listsB n ss.length ll = true) (hp : partsB ss ll = false) :
    Calls Try.prog 9 #[.agg #[.int .i64 n, v], uw, u] w (Gives w (.bool true)) := by
  have hb0 : Below w.heap.size w (w.alloc (.cells #[.int .i64 n, v] 24)) := (Below.refl _ _).alloc (Nat.le_refl _) _
  obtain ⟨A, c, rfl, hc, hm⟩ := hv.form
  obtain ⟨ht, hf⟩ := ready_iff.1 hr
  obtain ⟨tl, tl9⟩ := thin_len ht
  have Htl := Lib.hid (fun (j : Nat) (s : Strat) (h : ss[j]? = some s) => Nat.le_trans (tl9 j s h) (by decide : 9 ≤ 1000))
  clear tl9
  obtain ⟨sl, sl9⟩ := short_len hs
  have Hsl := Lib.hid (fun (j : Nat) (l : List Int) (h : ll[j]? = some l) => Nat.le_trans (sl9 j l h) (by decide : 9 ≤ 1000))
  clear sl9
  have hs8 := (fault_zero hf).1
  have hn5 := (fault_zero hf).2.2.1
  have hn1 := (fault_zero hf).2.1
  obtain ⟨Aw, cw, rfl, hcw, hmw⟩ := hz.form
  obtain ⟨Au, cu, rfl, hcu, hmu⟩ := hu.form
  have htr : truthB n ss ll = false := by simp [truthB, hp]
  have hpos := refusedL_pos hp
  rw [(fit_of hf hl).len] at hpos
  have hne : (((refusedL ss ll ss.length).length : Int) == 0) = false := beq_eq_false_iff_ne.2 (by omega)
  have Hf := Lib.hid hf
  have Htr := Lib.hid htr
  have Hl := Lib.hid hl
  clear hf htr hl ht hp hpos
  go_enter Try.func9, Try.ntmps9
  have g0 : (w.alloc (.cells #[.int .i64 n, .slice A ss.length c] 24)).cell? ⟨w.heap.size, 0, none⟩ = some (.int .i64 n) := by simp [go_sem]
  have g1 : (w.alloc (.cells #[.int .i64 n, .slice A ss.length c] 24)).cell? ⟨w.heap.size, 1, none⟩ = some (.slice A ss.length c) := by simp [go_sem]
  go_wp2_with fail
  refine (Gives.to hr (ready_any n _ ss _ (hv.below hb0))).mono ?_; rintro e w1 ⟨rfl, hb1⟩
  have hw1 := hb0.trans (hb1.mono hb0.size)
  replace g0 := cell_below hb1 g0
  replace g1 := cell_below hb1 g1
  go_wp2_with fail
  refine (Gives.to hs (short_any _ ll _ (hu.below hw1))).mono ?_; rintro e w2 ⟨rfl, hb2⟩
  have hw2 := hw1.trans (hb2.mono hw1.size)
  replace g0 := cell_below hb2 g0
  replace g1 := cell_below hb2 g1
  clear hr hs
  go_wp2_with fail
  refine wp_region_noPanic ?_
  refine wp_region_ph [([0, 2, 3], [1, 4, 5, 6]), ([7, 8], [9, 10])] (fun _ => true) (fun w' => w'.cell? ⟨w.heap.size, 0, none⟩ = some (.int .i64 n) ∧ w'.cell? ⟨w.heap.size, 1, none⟩ = some (.slice A ss.length c)) (by kernel_rfl) (by kernel_rfl) (fun _ _ _ _ _ h => h) ?_
  replace g0 := cell_below (Below.refl _ _).drew g0
  replace g1 := cell_below (Below.refl _ _).drew g1
  have hd3 := hw2.drew
  refine wpPh_cons ⟨g0, g1⟩ (fun hne => ?_)
  have m0 := fun x : Meets (fun w' => w'.cell? ⟨w.heap.size, 0, none⟩ = some (.int .i64 n) ∧ w'.cell? ⟨w.heap.size, 1, none⟩ = some (.slice A ss.length c)) => x.property
  have x0 := fun x => (m0 x).1
  have x1 := fun x => (m0 x).2
  clear m0
  simp only [pick, pickN, List.filterMap_cons, List.filterMap_nil, List.getElem?_cons_zero, List.getElem?_cons_succ, Option.map_some]
  repeat (change wpQuiet _ _ _ _ (_ :: _) _; go_big_quiet_step (fail))
  refine wpQuiet_nil ?_
  clear x0 x1 hne
  refine wpSeqK_step (fun K hK => ?_)
  go_simp
  refine (Pool_any n _ ss _ (hv.below hd3) (by omega) Htl.out).mono ?_; rintro e w3 ⟨v3, rfl, s3, hb3⟩
  have hw3 := hd3.trans (hb3.mono hd3.size)
  replace g0 := cell_below hb3 g0
  replace g1 := cell_below hb3 g1
  refine hK.out _ _ (fun _ => ⟨g0, g1⟩) ?_
  clear hK K
  obtain ⟨A3, c3, rfl, hc3, hm3⟩ := s3.form
  refine wpSeqK_step (fun K hK => ?_)
  go_simp
  refine (Truly_any n _ _ ss ws _ (hv.below hw3) (hz.below hw3) hw Hf.out).mono ?_; rintro e w4 ⟨ll4, A4, c4, us4, htr4, rfl, o4, q4, hb4⟩
  have hw4 := hw3.trans (hb4.mono hw3.size)
  replace g0 := cell_below hb4 g0
  replace g1 := cell_below hb4 g1
  replace s3 := s3.below hb4
  refine hK.out _ _ (fun _ => ⟨g0, g1⟩) ?_
  clear hK K
  have r4 := rows_of_own o4 q4
  simp only [truthB, Bool.and_eq_true] at htr4
  obtain ⟨hlt4, hpt4⟩ := htr4
  have Hlt4 := Lib.hid hlt4
  have Hnil4 := Lib.hid (refusedL_nil hpt4 ss.length (by have := (fit_of Hf.out hlt4).len; omega))
  clear hlt4 hpt4
  refine wpSeqK_step (fun K hK => ?_)
  go_simp
  refine (Refused_ok n _ _ ss ll4 _ s3 r4 Hf.out Hlt4.out).mono ?_; rintro e w5 ⟨A5, c5, rfl, o5, hb5⟩
  have hw5 := hw4.trans (hb5.mono hw4.size)
  replace g0 := cell_below hb5 g0
  replace g1 := cell_below hb5 g1
  replace s3 := s3.below hb5
  rw [Hnil4.out]
  refine hK.out _ _ (fun _ => ⟨g0, g1⟩) ?_
  clear hK K
  refine wpSeqK_step (fun K hK => ?_)
  go_simp
  refine hK.out _ _ (fun _ => ⟨g0, g1⟩) ?_
  clear hK K
  refine wpSeqK_nil ?_
  refine wpPh_cons ⟨g0, g1⟩ (fun hne => ?_)
  have m0 := fun x : Meets (fun w' => w'.cell? ⟨w.heap.size, 0, none⟩ = some (.int .i64 n) ∧ w'.cell? ⟨w.heap.size, 1, none⟩ = some (.slice A ss.length c)) => x.property
  have x0 := fun x => (m0 x).1
  have x1 := fun x => (m0 x).2
  clear m0
  simp only [pick, pickN, List.filterMap_cons, List.filterMap_nil, List.getElem?_cons_zero, List.getElem?_cons_succ, Option.map_some]
  repeat (change wpQuiet _ _ _ _ (_ :: _) _; go_big_quiet_step (fail))
  refine wpQuiet_nil ?_
  clear x0 x1 hne
  refine wpSeqK_step (fun K hK => ?_)
  go_simp
  refine hK.out _ _ (fun _ => ⟨g0, g1⟩) ?_
  clear hK K
  refine wpSeqK_step (fun K hK => ?_)
  go_simp
  refine hK.out _ _ (fun _ => ⟨g0, g1⟩) ?_
  clear hK K
  refine wpSeqK_nil ?_
  refine wpPh_nil ?_
  refine NoPanic.normal ?_
  go_wp2_with fail
  refine (Pool_any n _ ss _ (hv.below hw5) (by omega) Htl.out).mono ?_; rintro e w6 ⟨v6, rfl, s6, hb6⟩
  have hw6 := hw5.trans (hb6.mono hw5.size)
  replace g0 := cell_below hb6 g0
  replace g1 := cell_below hb6 g1
  obtain ⟨A6, c6, rfl, hc6, hm6⟩ := s6.form
  go_wp2_with fail
  refine (rows_any _ ll _ (hu.below hw6) (by omega) Hsl.out).mono ?_; rintro e w7 ⟨A7, c7, us7, rfl, o7, q7, hb7⟩
  have hw7 := hw6.trans (hb7.mono hw6.size)
  replace g0 := cell_below hb7 g0
  replace g1 := cell_below hb7 g1
  replace s6 := s6.below hb7
  have r7 := rows_of_own o7 q7
  go_wp2_with fail
  refine (Refused_ok n _ _ ss ll _ s6 r7 Hf.out Hl.out).mono ?_; rintro e w8 ⟨A8, c8, rfl, o8, hb8⟩
  have hw8 := hw7.trans (hb8.mono hw7.size)
  replace g0 := cell_below hb8 g0
  replace g1 := cell_below hb8 g1
  replace s6 := s6.below hb8
  replace r7 := r7.below hb8
  go_wp2_with fail
  refine (Pool_any n _ ss _ (hv.below hw8) (by omega) Htl.out).mono ?_; rintro e w9 ⟨v9, rfl, s9, hb9⟩
  have hw9 := hw8.trans (hb9.mono hw8.size)
  replace g0 := cell_below hb9 g0
  replace g1 := cell_below hb9 g1
  obtain ⟨A9, c9, rfl, hc9, hm9⟩ := s9.form
  go_wp2_with fail
  refine (rows_any _ ll _ (hu.below hw9) (by omega) Hsl.out).mono ?_; rintro e w10 ⟨A10, c10, us10, rfl, o10, q10, hb10⟩
  have hw10 := hw9.trans (hb10.mono hw9.size)
  replace g0 := cell_below hb10 g0
  replace g1 := cell_below hb10 g1
  replace s9 := s9.below hb10
  have r10 := rows_of_own o10 q10
  go_wp2_with fail
  refine (Get_range n _ _ ss ll _ s9 r10 Hf.out Htr.out).mono ?_; rintro e w11 ⟨rfl, hb11⟩
  have hw11 := hw10.trans (hb11.mono hw10.size)
  replace g0 := cell_below hb11 g0
  replace g1 := cell_below hb11 g1
  replace s9 := s9.below hb11
  replace r10 := r10.below hb11
  go_wp2_with fail
  refine (wakes_any _).mono ?_; rintro e w12 ⟨rfl, hb12⟩
  have hw12 := hw11.trans (hb12.mono hw11.size)
  replace g0 := cell_below hb12 g0
  replace g1 := cell_below hb12 g1
  go_wp2
  go_ret
  exact ⟨rfl, hw12⟩

theorem Claims_law (n : Int) (v uw u : Value) (ss : List Strat) (ws : List Int) (ll : List (List Int)) (w : World) (hv : StrataAt w v ss) (hz : NumsAt .u16 w uw ws) (hw : WordsOk ws) (hu : RowsAt w u ll) :
    Calls Try.prog 9 #[.agg #[.int .i64 n, v], uw, u] w (Gives w (.bool true)) := by
  cases hr : readyB n ss with
  | false => exact Claims_not n v uw u ss ws ll w hv hz hw hu hr
  | true =>
    cases hs : shortB ll with
    | false => exact Claims_short n v uw u ss ws ll w hv hz hw hu hr hs
    | true =>
      cases hl : listsB n ss.length ll with
      | false => exact Claims_a n v uw u ss ws ll w hv hz hw hu hr hs hl
      | true =>
        cases hp : partsB ss ll with
        | true => exact Claims_b n v uw u ss ws ll w hv hz hw hu hr hs hl hp
        | false => exact Claims_c n v uw u ss ws ll w hv hz hw hu hr hs hl hp
end Go.Proofs.Ytobeffjdfhkjeaa
