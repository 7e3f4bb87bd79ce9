import Derived.Test.YtobeffjdfhkjeaaKa
import Derived.Test.YtobeffjdfhkjeaaW5
import Derived.Test.YtobeffjdfhkjeaaTk
set_option linter.unusedVariables false
set_option linter.unusedSimpArgs false
namespace Go.Proofs.Ytobeffjdfhkjeaa
open Go Go.Proofs Go.RowKit

theorem OutAt.below {W W' : World} {g m : Nat} {f : Nat → Int × Int} (h : OutAt W g f m) (hb : Below W.heap.size W W') : OutAt W' g f m := h.kept (hb.block g h.lt)

/-- What the walk's tests ask. -/
theorem neq_self (a : Int) : (a != a) = false := by simp
set_option maxRecDepth 100000 in
set_option maxHeartbeats 3200000 in
theorem Truth_not (n : Int) (v uw : Value) (ss : List Strat) (ws : List Int) (w : World) (hv : StrataAt w v ss) (hz : NumsAt .u16 w uw ws) (hw : WordsOk ws) (ht : readyB n ss = false) :
    Calls Try.prog 4 #[.agg #[.int .i64 n, v], uw] w (Gives w (.bool true)) := by
  have hb0 : Below w.heap.size w (w.alloc (.cells #[.int .i64 n, v] 24)) := (Below.refl _ _).alloc (Nat.le_refl _) _
  obtain ⟨A, c, rfl, hc, hm⟩ := hv.form
  go_enter Try.func4, Try.ntmps4
  have g0 : (w.alloc (.cells #[.int .i64 n, .slice A ss.length c] 24)).cell? ⟨w.heap.size, 0, none⟩ = some (.int .i64 n) := by simp [go_sem]
  have g1 : (w.alloc (.cells #[.int .i64 n, .slice A ss.length c] 24)).cell? ⟨w.heap.size, 1, none⟩ = some (.slice A ss.length c) := by simp [go_sem]
  go_wp2_with fail
  refine (Gives.to ht (ready_any n _ ss _ (hv.below hb0))).mono ?_; rintro e w1 ⟨rfl, hb1⟩
  have hw1 := hb0.trans (hb1.mono hb0.size)
  replace g0 := cell_below hb1 g0
  replace g1 := cell_below hb1 g1
  go_wp2_with fail
  refine (wakes_any _).mono ?_; rintro e w2 ⟨rfl, hb2⟩
  have hw2 := hw1.trans (hb2.mono hw1.size)
  replace g0 := cell_below hb2 g0
  replace g1 := cell_below hb2 g1
  go_wp2
  go_ret
  exact ⟨rfl, hw2⟩

set_option maxRecDepth 100000 in
set_option maxHeartbeats 3200000 in
theorem Truth_ready (m : Nat) (v uw : Value) (ss : List Strat) (ws : List Int) (w : World) (hv : StrataAt w v ss) (hz : NumsAt .u16 w uw ws) (hw : WordsOk ws) (hr : readyB m ss = true) :
    Calls Try.prog 4 #[.agg #[.int .i64 m, v], uw] w (Gives w (.bool true)) := by
  have hb0 : Below w.heap.size w (w.alloc (.cells #[.int .i64 m, v] 24)) := (Below.refl _ _).alloc (Nat.le_refl _) _
  obtain ⟨A, c, rfl, hc, hm⟩ := hv.form
  obtain ⟨ht, hf⟩ := ready_iff.1 hr
  obtain ⟨tl, tl9⟩ := thin_len ht
  have Htl := Lib.hid (fun (j : Nat) (s : Strat) (h : ss[j]? = some s) => Nat.le_trans (tl9 j s h) (by decide : 9 ≤ 1000))
  clear tl9
  have hs8 := (fault_zero hf).1
  have hn5 := (fault_zero hf).2.2.1
  have hn1 := (fault_zero hf).2.1
  obtain ⟨Aw, cw, rfl, hcw, hmw⟩ := hz.form
  have Hf := Lib.hid hf
  have Hval := Lib.hid (fault_zero hf).2.2.2
  clear hf ht
  go_enter Try.func4, Try.ntmps4
  have g0 : (w.alloc (.cells #[.int .i64 m, .slice A ss.length c] 24)).cell? ⟨w.heap.size, 0, none⟩ = some (.int .i64 m) := by simp [go_sem]
  have g1 : (w.alloc (.cells #[.int .i64 m, .slice A ss.length c] 24)).cell? ⟨w.heap.size, 1, none⟩ = some (.slice A ss.length c) := by simp [go_sem]
  go_wp2_with fail
  refine (Gives.to hr (ready_any m _ ss _ (hv.below hb0))).mono ?_; rintro e w1 ⟨rfl, hb1⟩
  have hw1 := hb0.trans (hb1.mono hb0.size)
  replace g0 := cell_below hb1 g0
  replace g1 := cell_below hb1 g1
  clear hr
  go_wp2_with fail
  refine (Pool_any m _ ss _ (hv.below hw1) (by omega) Htl.out).mono ?_; rintro e w2 ⟨v2, rfl, s2, hb2⟩
  have hw2 := hw1.trans (hb2.mono hw1.size)
  replace g0 := cell_below hb2 g0
  replace g1 := cell_below hb2 g1
  obtain ⟨A2, c2, rfl, hc2, hm2⟩ := s2.form
  go_wp2_with fail
  refine (Bounds_ok m _ ss _ s2 Hf.out).mono ?_; rintro e w3 ⟨gb, rfl, hgb, ob, hb3⟩
  have hw3 := hw2.trans (hb3.mono hw2.size)
  replace g0 := cell_below hb3 g0
  replace g1 := cell_below hb3 g1
  replace s2 := s2.below hb3
  go_wp2_with fail
  refine wp_region_noPanic ?_
  refine wp_region_ph [([0, 2, 3], [1, 4, 5, 6]), ([7, 8, 9], [10, 11, 12])] (fun _ => true) (fun w' => w'.cell? ⟨w.heap.size, 0, none⟩ = some (.int .i64 m) ∧ w'.cell? ⟨w.heap.size, 1, none⟩ = some (.slice A ss.length c)) (by kernel_rfl) (by kernel_rfl) (fun _ _ _ _ _ h => h) ?_
  replace g0 := cell_below (Below.refl _ _).drew g0
  replace g1 := cell_below (Below.refl _ _).drew g1
  have hd4 := hw3.drew
  replace ob := ob.below (Below.refl _ _).drew
  refine wpPh_cons ⟨g0, g1⟩ (fun hne => ?_)
  have m0 := fun x : Meets (fun w' => w'.cell? ⟨w.heap.size, 0, none⟩ = some (.int .i64 m) ∧ w'.cell? ⟨w.heap.size, 1, none⟩ = some (.slice A ss.length c)) => x.property
  have x0 := fun x => (m0 x).1
  have x1 := fun x => (m0 x).2
  clear m0
  simp only [pick, pickN, List.filterMap_cons, List.filterMap_nil, List.getElem?_cons_zero, List.getElem?_cons_succ, Option.map_some]
  repeat (change wpQuiet _ _ _ _ (_ :: _) _; go_big_quiet_step (fail))
  refine wpQuiet_nil ?_
  clear x0 x1 hne
  refine wpSeqK_step (fun K hK => ?_)
  go_simp
  refine (Pool_any m _ ss _ (hv.below hd4) (by omega) Htl.out).mono ?_; rintro e w4 ⟨v4, rfl, s4, hb4⟩
  have hw4 := hd4.trans (hb4.mono hd4.size)
  replace g0 := cell_below hb4 g0
  replace g1 := cell_below hb4 g1
  replace ob := ob.below hb4
  refine hK.out _ _ (fun _ => ⟨g0, g1⟩) ?_
  clear hK K
  obtain ⟨A4, c4, rfl, hc4, hm4⟩ := s4.form
  refine wpSeqK_step (fun K hK => ?_)
  go_simp
  refine (Truly_any m _ _ ss ws _ (hv.below hw4) (hz.below hw4) hw Hf.out).mono ?_; rintro e w5 ⟨ll, A5, c5, us5, htr, rfl, o5, q5, hb5⟩
  have hw5 := hw4.trans (hb5.mono hw4.size)
  replace g0 := cell_below hb5 g0
  replace g1 := cell_below hb5 g1
  replace ob := ob.below hb5
  replace s4 := s4.below hb5
  refine hK.out _ _ (fun _ => ⟨g0, g1⟩) ?_
  clear hK K
  have r5 := rows_of_own o5 q5
  have Htr := Lib.hid htr
  clear htr
  refine wpSeqK_step (fun K hK => ?_)
  go_simp
  refine (Get_ok m _ _ ss ll _ s4 r5 Hf.out Htr.out).mono ?_; rintro e w6 ⟨A6, c6, rfl, o6, hb6⟩
  have hw6 := hw5.trans (hb6.mono hw5.size)
  replace g0 := cell_below hb6 g0
  replace g1 := cell_below hb6 g1
  replace ob := ob.below hb6
  replace s4 := s4.below hb6
  refine hK.out _ _ (fun _ => ⟨g0, g1⟩) ?_
  clear hK K
  have ng := nums_of_own o6
  have el : (getsL m ss ll).length = m := by simp [getsL]
  rw [el] at ng ⊢
  clear el o6
  refine wpSeqK_step (fun K hK => ?_)
  go_simp
  refine hK.out _ _ (fun _ => ⟨g0, g1⟩) ?_
  clear hK K
  refine wpSeqK_nil ?_
  refine wpPh_cons ⟨g0, g1⟩ (fun hne => ?_)
  have m0 := fun x : Meets (fun w' => w'.cell? ⟨w.heap.size, 0, none⟩ = some (.int .i64 m) ∧ w'.cell? ⟨w.heap.size, 1, none⟩ = some (.slice A ss.length c)) => x.property
  have x0 := fun x => (m0 x).1
  have x1 := fun x => (m0 x).2
  clear m0
  simp only [pick, pickN, List.filterMap_cons, List.filterMap_nil, List.getElem?_cons_zero, List.getElem?_cons_succ, Option.map_some]
  repeat (change wpQuiet _ _ _ _ (_ :: _) _; go_big_quiet_step (fail))
  refine wpQuiet_nil ?_
  clear x0 x1 hne
  refine wpSeqK_step (fun K hK => ?_)
  go_simp
  refine hK.out _ _ (fun _ => ⟨g0, g1⟩) ?_
  clear hK K
  refine wpSeqK_step (fun K hK => ?_)
  go_simp
  refine hK.out _ _ (fun _ => ⟨g0, g1⟩) ?_
  clear hK K
  refine wpSeqK_step (fun K hK => ?_)
  go_simp
  refine hK.out _ _ (fun _ => ⟨g0, g1⟩) ?_
  clear hK K
  refine wpSeqK_nil ?_
  refine wpPh_nil ?_
  refine NoPanic.normal ?_
  have hm5 : m ≤ 5 := by omega
  go_wp2_with fail
  go_loopw [10] (fun i wr => ∃ j : Nat, j ≤ m ∧ i = .int .i64 j ∧ Below w6.heap.size w6 wr) (fun i wr => m - (intOf i).toNat)
  case atStart => exact ⟨0, by omega, rfl, Below.refl _ _⟩
  case round =>
    obtain ⟨j, hj, rfl, hbr⟩ := hrel
    obtain ⟨wo, rfl⟩ : ∃ wo : World, wo = wr := ⟨_, rfl⟩
    have hbo := hw6.trans (hbr.mono hw6.size)
    replace g0 := cell_below hbr g0
    replace g1 := cell_below hbr g1
    replace ng := ng.below hbr
    replace ob := ob.below hbr
    by_cases hlt : j < m
    · have hlt' : (j : Int) < (m : Int) := by omega
      have htk := Lib.hid (taken_truth (c := j) Hf.out (by omega))
      go_wp2_with fail
      refine wp_region_noPanic ?_
      refine wp_region_ph [([0, 2, 3], [1, 4, 5, 6]), ([7, 8, 9], [10, 11, 12])] (fun _ => true) (fun w' => w'.cell? ⟨w.heap.size, 0, none⟩ = some (.int .i64 m) ∧ w'.cell? ⟨w.heap.size, 1, none⟩ = some (.slice A ss.length c)) (by kernel_rfl) (by kernel_rfl) (fun _ _ _ _ _ h => h) ?_
      replace g0 := cell_below (Below.refl _ _).drew g0
      replace g1 := cell_below (Below.refl _ _).drew g1
      have hd40 := hbo.drew
      replace ng := ng.below (Below.refl _ _).drew
      replace ob := ob.below (Below.refl _ _).drew
      refine wpPh_cons ⟨g0, g1⟩ (fun hne => ?_)
      have m0 := fun x : Meets (fun w' => w'.cell? ⟨w.heap.size, 0, none⟩ = some (.int .i64 m) ∧ w'.cell? ⟨w.heap.size, 1, none⟩ = some (.slice A ss.length c)) => x.property
      have x0 := fun x => (m0 x).1
      have x1 := fun x => (m0 x).2
      clear m0
      simp only [pick, pickN, List.filterMap_cons, List.filterMap_nil, List.getElem?_cons_zero, List.getElem?_cons_succ, Option.map_some]
      repeat (change wpQuiet _ _ _ _ (_ :: _) _; go_big_quiet_step (fail))
      refine wpQuiet_nil ?_
      clear x0 x1 hne
      refine wpSeqK_step (fun K hK => ?_)
      go_simp
      refine (Pool_any m _ ss _ (hv.below hd40) (by omega) Htl.out).mono ?_; rintro e w40 ⟨v40, rfl, s40, hb40⟩
      have hw40 := hd40.trans (hb40.mono hd40.size)
      replace g0 := cell_below hb40 g0
      replace g1 := cell_below hb40 g1
      replace ng := ng.below hb40
      replace ob := ob.below hb40
      refine hK.out _ _ (fun _ => ⟨g0, g1⟩) ?_
      clear hK K
      obtain ⟨A40, c40, rfl, hc40, hm40⟩ := s40.form
      refine wpSeqK_step (fun K hK => ?_)
      go_simp
      refine (taken_any m _ ss j _ (hv.below hw40) Hf.out (by omega)).mono ?_; rintro e w41 ⟨A41, c41, us41, rfl, o41, q41, hb41⟩
      have hw41 := hw40.trans (hb41.mono hw40.size)
      replace g0 := cell_below hb41 g0
      replace g1 := cell_below hb41 g1
      replace ng := ng.below hb41
      replace ob := ob.below hb41
      replace s40 := s40.below hb41
      refine hK.out _ _ (fun _ => ⟨g0, g1⟩) ?_
      clear hK K
      have r41 := rows_of_own o41 q41
      refine wpSeqK_step (fun K hK => ?_)
      go_simp
      refine (Get_ok m _ _ ss (takenL ss j) _ s40 r41 Hf.out htk.out).mono ?_; rintro e w42 ⟨A42, c42, rfl, o42, hb42⟩
      have hw42 := hw41.trans (hb42.mono hw41.size)
      replace g0 := cell_below hb42 g0
      replace g1 := cell_below hb42 g1
      replace ng := ng.below hb42
      replace ob := ob.below hb42
      replace s40 := s40.below hb42
      refine hK.out _ _ (fun _ => ⟨g0, g1⟩) ?_
      clear hK K
      have nm := nums_of_own o42
      have el : (getsL m ss (takenL ss j)).length = m := by simp [getsL]
      rw [el] at nm ⊢
      clear el o42
      refine wpSeqK_step (fun K hK => ?_)
      go_simp
      refine hK.out _ _ (fun _ => ⟨g0, g1⟩) ?_
      clear hK K
      refine wpSeqK_nil ?_
      refine wpPh_cons ⟨g0, g1⟩ (fun hne => ?_)
      have m0 := fun x : Meets (fun w' => w'.cell? ⟨w.heap.size, 0, none⟩ = some (.int .i64 m) ∧ w'.cell? ⟨w.heap.size, 1, none⟩ = some (.slice A ss.length c)) => x.property
      have x0 := fun x => (m0 x).1
      have x1 := fun x => (m0 x).2
      clear m0
      simp only [pick, pickN, List.filterMap_cons, List.filterMap_nil, List.getElem?_cons_zero, List.getElem?_cons_succ, Option.map_some]
      repeat (change wpQuiet _ _ _ _ (_ :: _) _; go_big_quiet_step (fail))
      refine wpQuiet_nil ?_
      clear x0 x1 hne
      refine wpSeqK_step (fun K hK => ?_)
      go_simp
      refine hK.out _ _ (fun _ => ⟨g0, g1⟩) ?_
      clear hK K
      refine wpSeqK_step (fun K hK => ?_)
      go_simp
      refine hK.out _ _ (fun _ => ⟨g0, g1⟩) ?_
      clear hK K
      refine wpSeqK_step (fun K hK => ?_)
      go_simp
      refine hK.out _ _ (fun _ => ⟨g0, g1⟩) ?_
      clear hK K
      refine wpSeqK_nil ?_
      refine wpPh_nil ?_
      refine NoPanic.normal ?_
      obtain ⟨b3, o3, z, rfl, hz3, dz, hbz⟩ := ng.at_ (k := j) (by simp [getsL]; exact hlt)
      obtain ⟨b4, o4, y, rfl, hy4, dy, hby⟩ := nm.at_ (k := j) (by simp [getsL]; exact hlt)
      have q0 := ob.c0 hlt
      have q1 := ob.c1 hlt
      have hin := gK_in Hf.out Htr.out (c := j) (by omega) ss.length (Nat.le_refl _)
      have hmo := taken_most Hf.out (c := j) (by omega) ss.length (Nat.le_refl _)
      rw [gets_at hlt] at hz3 hy4
      obtain rfl := Option.some.inj hz3
      obtain rfl := Option.some.inj hy4
      rw [hmo] at dy
      obtain ⟨bL, hbL⟩ : ∃ x, (boundK ss j ss.length).1 = x := ⟨_, rfl⟩
      obtain ⟨bH, hbH⟩ : ∃ x, (boundK ss j ss.length).2 = x := ⟨_, rfl⟩
      obtain ⟨G, hG⟩ : ∃ x, gK ss ll j ss.length = x := ⟨_, rfl⟩
      rw [hbL] at q0 hin
      rw [hbH] at q1 hin dy
      rw [hG] at dz hin
      have t1 : decide (G < bL) = false := decide_eq_false (by omega)
      have t2 : decide (bH < G) = false := decide_eq_false (by omega)
      have hbw42 : Below w6.heap.size w6 w42 := hbr.trans ((Below.refl _ _).drew.trans hb40 |>.trans (hb41.mono (by have := hb40.size; exact this)) |>.trans (hb42.mono (by have := hb40.size; have := hb41.size; omega)) |>.mono hbr.size)
      clear hz3 hy4 hmo hbL hbH hG hin
      have x0 := Later.cell dz
      have x1 := Later.cell dy
      have x2 := Later.cell q0
      have x3 := Later.cell q1
      have x4 := Later.cell g0
      go_wp2_with fail
      refine wp_region_later (by kernel_rfl) (by kernel_rfl) ?_
      repeat (go_big_quiet_step (fail))
      refine wpQuiet_nil ?_
      intro w60 hx60
      have hb60 := Later.out hx60
      clear hx60 x0 x1 x2 x3 x4 dz dy q0 q1
      have hbw60 := hbw42.trans (hb60.mono hbw42.size)
      have nm60 := nm.below hb60
      have ob60 := ob.below hb60
      have g60 := cell_below hb60 g0
      have g61 := cell_below hb60 g1
      clear ng ob nm g0 g1 t1 t2
      have Hleast := Lib.hid fun (oo : Nat) (h : oo < m) (hne : oo ≠ j) => taken_least (n := m) (c := j) (o := oo) Hf.out (by omega) (by omega) hne ss.length (Nat.le_refl _)
      go_wp2_with fail
      go_loopw [14] (fun i wr => ∃ t : Nat, t ≤ m ∧ i = .int .i64 t ∧ Below w60.heap.size w60 wr) (fun i wr => m - (intOf i).toNat)
      case atStart => exact ⟨0, by omega, rfl, Below.refl _ _⟩
      case round =>
        obtain ⟨t, ht, rfl, hbt⟩ := hrel
        obtain ⟨wt, rfl⟩ : ∃ wt : World, wt = wr := ⟨_, rfl⟩
        have nm := nm60.below hbt
        have ob := ob60.below hbt
        have g0 := cell_below hbt g60
        have g1 := cell_below hbt g61
        by_cases htm : t < m
        · have htm' : (t : Int) < (m : Int) := by omega
          obtain ⟨b5, o5, y, e5, hy4, dy, hby⟩ := nm.at_ (k := t) (by simp [getsL]; exact htm)
          cases e5
          have q0 := ob.c0 htm
          have x0 := Later.cell dy
          have x1 := Later.cell q0
          by_cases hne : t = j
          · have hd : ((t : Int) != (j : Int)) = false := by simp [hne]
            clear hne hy4
            go_wp2_with fail
            refine wp_region_later (by kernel_rfl) (by kernel_rfl) ?_
            repeat (go_big_quiet_step (fail))
            refine wpQuiet_nil ?_
            intro w70 hx70
            have hb70 := Later.out hx70
            clear hx70 x0 x1
            go_wp2
            go_roundw
            case rel => exact ⟨t + 1, by omega, by go_num, hbt.trans (hb70.mono hbt.size)⟩
            case measure => simp [intOf]; omega
          · have hd : ((t : Int) != (j : Int)) = true := by simp; omega
            rw [gets_at htm, Hleast.out t htm hne] at hy4
            obtain rfl := Option.some.inj hy4
            obtain ⟨bT, hbT⟩ : ∃ x, (boundK ss t ss.length).1 = x := ⟨_, rfl⟩
            rw [hbT] at x0 x1 dy q0
            clear hne hy4 hbT
            go_wp2_with fail
            refine wp_region_later (by kernel_rfl) (by kernel_rfl) ?_
            repeat (go_big_quiet_step (fail))
            refine wpQuiet_nil ?_
            intro w70 hx70
            have hb70 := Later.out hx70
            clear hx70 x0 x1
            go_wp2
            go_roundw
            case rel => exact ⟨t + 1, by omega, by go_num, hbt.trans (hb70.mono hbt.size)⟩
            case measure => simp [intOf]; omega
        · obtain rfl : t = m := by omega
          go_wp2
          go_roundw
          case rel => exact ⟨j + 1, by omega, by go_num, hbw60.trans (hbt.mono hbw60.size)⟩
          case measure => simp [intOf]; omega
    · obtain rfl : j = m := by omega
      by_cases hm1 : 1 < j
      · have hm1' : (1 : Int) < (j : Int) := by omega
        go_wp2_with (go_at_call 18; refine (wakes_any _).mono ?_; rintro e w80 ⟨rfl, hb80⟩)
        go_ret
        exact ⟨rfl, hbo.trans (hb80.mono hbo.size)⟩
      · obtain rfl : j = 1 := by omega
        have hal := alone_bound Hf.out ss.length (Nat.le_refl _)
        have q0 := ob.c0 (c := 0) (by omega)
        have q1 := ob.c1 (c := 0) (by omega)
        rw [hal] at q0 q1
        have hbd1 := (alone_bd Hf.out ss.length (Nat.le_refl _))
        clear hal ob ng
        go_wp2_with fail
        go_loopw [15, 16, 17] (fun x y i wr => ∃ k : Nat, k ≤ ss.length ∧ i = .int .i64 k ∧ x = .int .i64 (aloneL ss k) ∧ y = .int .i64 (aloneH ss k) ∧ Below wo.heap.size wo wr) (fun x y i wr => ss.length - (intOf i).toNat)
        case atStart => exact ⟨0, by omega, rfl, rfl, rfl, Below.refl _ _⟩
        case round =>
          obtain ⟨k, hk, rfl, rfl, rfl, hbk⟩ := hrel
          obtain ⟨wk, rfl⟩ : ∃ wk : World, wk = wr := ⟨_, rfl⟩
          replace g0 := cell_below hbk g0
          replace g1 := cell_below hbk g1
          replace q0 := cell_below hbk q0
          replace q1 := cell_below hbk q1
          have hbd2 := (alone_bd Hf.out k hk)
          have hbok := hbo.trans (hbk.mono hbo.size)
          by_cases hlt1 : k < ss.length
          · have hlt1' : (k : Int) < (ss.length : Int) := by omega
            obtain ⟨b, o, s, y, rfl, hs, hy, e0, e1, e2, e3, hby⟩ := (hv.below hbok).at_ hlt1
            have hco := (strat_nums (Hval.out k s hs)).1
            have HL : Hid (aloneL ss (k + 1) = aloneL ss k + if 0 < s.hi then (if 0 < s.lo then s.coins else 0) else 0) := by
              show aloneL ss (k + 1) = _
              rw [aloneL, hs, Option.getD_some]
            have HH : Hid (aloneH ss (k + 1) = aloneH ss k + if 0 < s.hi then s.coins else 0) := by
              show aloneH ss (k + 1) = _
              rw [aloneH, hs, Option.getD_some]
            clear hs
            obtain ⟨C, E, rfl, hC, hC'⟩ := hy.form
            have hba := hbk.alloc hbk.size (.cells #[.int .i64 s.coins, .int .i64 s.lo, .int .i64 s.hi, .slice C s.seen.length E] 44)
            by_cases h1 : 0 < s.hi
            · by_cases h2 : 0 < s.lo
              · go_wp2
                go_roundw
                case rel => exact ⟨k + 1, by omega, by go_num, by rw [HL.out, if_pos h1, if_pos h2], by rw [HH.out, if_pos h1], hba⟩
                case measure => simp [intOf]; omega
              · go_wp2
                go_roundw
                case rel => exact ⟨k + 1, by omega, by go_num, by rw [HL.out, if_pos h1, if_neg h2, Int.add_zero], by rw [HH.out, if_pos h1], hba⟩
                case measure => simp [intOf]; omega
            · go_wp2
              go_roundw
              case rel => exact ⟨k + 1, by omega, by go_num, by rw [HL.out, if_neg h1, Int.add_zero], by rw [HH.out, if_neg h1, Int.add_zero], hba⟩
              case measure => simp [intOf]; omega
          · obtain rfl : k = ss.length := by omega
            go_wp2_with (go_at_call 18; refine (wakes_any _).mono ?_; rintro e w80 ⟨rfl, hb80⟩)
            go_ret
            exact ⟨rfl, hbok.trans (hb80.mono hbok.size)⟩

theorem Truth_law (n : Int) (v uw : Value) (ss : List Strat) (ws : List Int) (w : World) (hv : StrataAt w v ss) (hz : NumsAt .u16 w uw ws) (hw : WordsOk ws) :
    Calls Try.prog 4 #[.agg #[.int .i64 n, v], uw] w (Gives w (.bool true)) := by
  cases hr : readyB n ss with
  | false => exact Truth_not n v uw ss ws w hv hz hw hr
  | true =>
    have h1 := (fault_zero (ready_iff.1 hr).2).2.1
    obtain ⟨m, rfl⟩ : ∃ m : Nat, n = m := ⟨n.toNat, by omega⟩
    exact Truth_ready m v uw ss ws w hv hz hw hr
end Go.Proofs.Ytobeffjdfhkjeaa
