import Derived.Test.YtobeffjdfhkjeaaNe
import Derived.Test.YtobeffjdfhkjeaaWd
set_option linter.unusedVariables false
set_option linter.unusedSimpArgs false
namespace Go.Proofs.Ytobeffjdfhkjeaa
open Go Go.Proofs Go.RowKit


theorem widK_best {n : Int} {ss : List Strat} (h : ∀ (j : Nat) (s : Strat), ss[j]? = some s → stratB n s = true) : ∀ k, 1 ≤ k → k ≤ ss.length → ∃ b : Nat, b < k ∧ widK ss k = ((b : Int), widthS (ss[b]?.getD Strat.none))
  | 0, h0, _ => by omega
  | 1, _, hk => by
    refine ⟨0, by omega, ?_⟩
    have hw : 0 ≤ widthS (ss[0]?.getD Strat.none) := by
      rw [List.getElem?_eq_getElem (by omega)]
      exact (wK_bd (h 0 _ (List.getElem?_eq_getElem (by omega))) _).1
    rw [widK]
    by_cases h0 : (widK ss 0).2 < widthS (ss[0]?.getD Strat.none)
    · rw [if_pos h0]
    · rw [if_neg h0, show widthS (ss[0]?.getD Strat.none) = 0 by simp only [widK] at h0; omega]; rfl
  | k + 2, _, hk => by
    obtain ⟨b, hb, e⟩ := widK_best h (k + 1) (by omega) (by omega)
    rw [widK]
    by_cases h0 : (widK ss (k + 1)).2 < widthS (ss[k + 1]?.getD Strat.none)
    · rw [if_pos h0]; exact ⟨k + 1, by omega, rfl⟩
    · rw [if_neg h0]; exact ⟨b, by omega, e⟩

set_option maxRecDepth 100000 in
set_option maxHeartbeats 3200000 in
theorem LBounds_not (n : Int) (v : Value) (ss : List Strat) (w : World) (hv : StrataAt w v ss) (ht : fewB n ss = false) :
    Calls Try.prog 11 #[.agg #[.int .i64 n, v]] w (Gives w (.bool true)) := by
  have hb0 : Below w.heap.size w (w.alloc (.cells #[.int .i64 n, v] 24)) := (Below.refl _ _).alloc (Nat.le_refl _) _
  obtain ⟨A, c, rfl, hc, hm⟩ := hv.form
  go_enter Try.func11, Try.ntmps11
  have g0 : (w.alloc (.cells #[.int .i64 n, .slice A ss.length c] 24)).cell? ⟨w.heap.size, 0, none⟩ = some (.int .i64 n) := by simp [go_sem]
  have g1 : (w.alloc (.cells #[.int .i64 n, .slice A ss.length c] 24)).cell? ⟨w.heap.size, 1, none⟩ = some (.slice A ss.length c) := by simp [go_sem]
  go_wp2_with fail
  refine (Gives.to ht (Few_any n _ ss _ (hv.below hb0))).mono ?_; rintro e w1 ⟨rfl, hb1⟩
  have hw1 := hb0.trans (hb1.mono hb0.size)
  replace g0 := cell_below hb1 g0
  replace g1 := cell_below hb1 g1
  go_wp2_with fail
  refine (wakes_any _).mono ?_; rintro e w2 ⟨rfl, hb2⟩
  have hw2 := hw1.trans (hb2.mono hw1.size)
  replace g0 := cell_below hb2 g0
  replace g1 := cell_below hb2 g1
  go_wp2
  go_ret
  exact ⟨rfl, hw2⟩

set_option maxRecDepth 100000 in
set_option maxHeartbeats 3200000 in
theorem LBounds_fault (n : Int) (v : Value) (ss : List Strat) (w : World) (hv : StrataAt w v ss) (ht : fewB n ss = true) (hf : (faultI n ss != 0) = true) :
    Calls Try.prog 11 #[.agg #[.int .i64 n, v]] w (Gives w (.bool true)) := by
  have hb0 : Below w.heap.size w (w.alloc (.cells #[.int .i64 n, v] 24)) := (Below.refl _ _).alloc (Nat.le_refl _) _
  obtain ⟨A, c, rfl, hc, hm⟩ := hv.form
  have ht0 : thinB ss = true := by
    simp only [fewB, Bool.and_eq_true] at ht
    exact ht.1
  obtain ⟨tl, tl9⟩ := thin_len ht0
  have Htl := Lib.hid (fun (j : Nat) (s : Strat) (h : ss[j]? = some s) => Nat.le_trans (tl9 j s h) (by decide : 9 ≤ 1000))
  clear tl9 ht0
  go_enter Try.func11, Try.ntmps11
  have g0 : (w.alloc (.cells #[.int .i64 n, .slice A ss.length c] 24)).cell? ⟨w.heap.size, 0, none⟩ = some (.int .i64 n) := by simp [go_sem]
  have g1 : (w.alloc (.cells #[.int .i64 n, .slice A ss.length c] 24)).cell? ⟨w.heap.size, 1, none⟩ = some (.slice A ss.length c) := by simp [go_sem]
  go_wp2_with fail
  refine (Gives.to ht (Few_any n _ ss _ (hv.below hb0))).mono ?_; rintro e w1 ⟨rfl, hb1⟩
  have hw1 := hb0.trans (hb1.mono hb0.size)
  replace g0 := cell_below hb1 g0
  replace g1 := cell_below hb1 g1
  go_wp2_with fail
  refine (Pool_any n _ ss _ (hv.below hw1) (by omega) Htl.out).mono ?_; rintro e w2 ⟨v2, rfl, s2, hb2⟩
  have hw2 := hw1.trans (hb2.mono hw1.size)
  replace g0 := cell_below hb2 g0
  replace g1 := cell_below hb2 g1
  obtain ⟨A2, c2, rfl, hc2, hm2⟩ := s2.form
  go_wp2_with fail
  refine (Bounds_fault n _ ss _ s2 hf).mono ?_; rintro e w3 ⟨rfl, hb3⟩
  have hw3 := hw2.trans (hb3.mono hw2.size)
  replace g0 := cell_below hb3 g0
  replace g1 := cell_below hb3 g1
  replace s2 := s2.below hb3
  go_wp2_with fail
  refine (Pool_any n _ ss _ (hv.below hw3) (by omega) Htl.out).mono ?_; rintro e w4 ⟨v4, rfl, s4, hb4⟩
  have hw4 := hw3.trans (hb4.mono hw3.size)
  replace g0 := cell_below hb4 g0
  replace g1 := cell_below hb4 g1
  obtain ⟨A4, c4, rfl, hc4, hm4⟩ := s4.form
  go_wp2_with fail
  refine (Widest_fault n _ ss _ s4 hf).mono ?_; rintro e w5 ⟨rfl, hb5⟩
  have hw5 := hw4.trans (hb5.mono hw4.size)
  replace g0 := cell_below hb5 g0
  replace g1 := cell_below hb5 g1
  replace s4 := s4.below hb5
  go_wp2_with fail
  refine (fault_any n _ ss _ (hv.below hw5)).mono ?_; rintro e w6 ⟨rfl, hb6⟩
  have hw6 := hw5.trans (hb6.mono hw5.size)
  replace g0 := cell_below hb6 g0
  replace g1 := cell_below hb6 g1
  go_wp2_with fail
  refine (wakes_any _).mono ?_; rintro e w7 ⟨rfl, hb7⟩
  have hw7 := hw6.trans (hb7.mono hw6.size)
  replace g0 := cell_below hb7 g0
  replace g1 := cell_below hb7 g1
  go_wp2
  go_ret
  exact ⟨rfl, hw7⟩

set_option maxRecDepth 100000 in
set_option maxHeartbeats 3200000 in
theorem LBounds_ok (n : Int) (v : Value) (ss : List Strat) (w : World) (hv : StrataAt w v ss) (ht : fewB n ss = true) (hf : faultI n ss = 0) :
    Calls Try.prog 11 #[.agg #[.int .i64 n, v]] w (Gives w (.bool true)) := by
  obtain ⟨hs8, hn1, hn5, hval⟩ := fault_zero hf
  obtain ⟨m, rfl⟩ : ∃ m : Nat, n = m := ⟨n.toNat, by omega⟩
  have hb0 : Below w.heap.size w (w.alloc (.cells #[.int .i64 (m : Int), v] 24)) := (Below.refl _ _).alloc (Nat.le_refl _) _
  obtain ⟨A, c, rfl, hc, hm⟩ := hv.form
  have ht0 : thinB ss = true := by
    simp only [fewB, Bool.and_eq_true] at ht
    exact ht.1
  obtain ⟨tl, tl9⟩ := thin_len ht0
  have Htl := Lib.hid (fun (j : Nat) (s : Strat) (h : ss[j]? = some s) => Nat.le_trans (tl9 j s h) (by decide : 9 ≤ 1000))
  clear tl9 ht0
  have h4 : ∀ (j : Nat) (s : Strat), ss[j]? = some s → s.hi - sumL s.seen ≤ 4 := fun j s hs => by
    simp only [fewB, hf, Bool.and_eq_true, Bool.or_eq_true] at ht
    rcases ht.2 with h | h
    · simp at h
    · simpa using List.all_eq_true.1 h.1 s (List.mem_of_getElem? hs)
  have H4 := Lib.hid h4
  have Hval := Lib.hid hval
  clear h4 hval
  obtain ⟨kI, hkI⟩ : ∃ x, (widK ss ss.length).1 = x := ⟨_, rfl⟩
  obtain ⟨wI, hwI⟩ : ∃ x, (widK ss ss.length).2 = x := ⟨_, rfl⟩
  obtain ⟨fI, hfI⟩ : ∃ x : Int, (if ss.length = 0 then (7 : Int) else 0) = x := ⟨_, rfl⟩
  have hWid : ∀ v W, StrataAt W v ss → Calls Try.prog 44 #[.agg #[.int .i64 (m : Int), v]] W (Gives W (.tuple #[.int .i64 kI, .int .i64 wI, .int .i64 fI])) := fun v W h => by
    rw [← hkI, ← hwI, ← hfI]
    exact Widest_any m v ss W h hf
  have HWid := Lib.hid hWid
  have HkI := Lib.hid hkI
  have HwI := Lib.hid hwI
  have HfI := Lib.hid hfI
  clear hkI hwI hfI hWid
  go_enter Try.func11, Try.ntmps11
  have g0 : (w.alloc (.cells #[.int .i64 (m : Int), .slice A ss.length c] 24)).cell? ⟨w.heap.size, 0, none⟩ = some (.int .i64 (m : Int)) := by simp [go_sem]
  have g1 : (w.alloc (.cells #[.int .i64 (m : Int), .slice A ss.length c] 24)).cell? ⟨w.heap.size, 1, none⟩ = some (.slice A ss.length c) := by simp [go_sem]
  go_wp2_with fail
  refine (Gives.to ht (Few_any (m : Int) _ ss _ (hv.below hb0))).mono ?_; rintro e w1 ⟨rfl, hb1⟩
  have hw1 := hb0.trans (hb1.mono hb0.size)
  replace g0 := cell_below hb1 g0
  replace g1 := cell_below hb1 g1
  clear ht
  go_wp2_with fail
  refine (Pool_any (m : Int) _ ss _ (hv.below hw1) (by omega) Htl.out).mono ?_; rintro e w2 ⟨v2, rfl, s2, hb2⟩
  have hw2 := hw1.trans (hb2.mono hw1.size)
  replace g0 := cell_below hb2 g0
  replace g1 := cell_below hb2 g1
  obtain ⟨A2, c2, rfl, hc2, hm2⟩ := s2.form
  go_wp2_with fail
  refine (Bounds_ok m _ ss _ s2 hf).mono ?_; rintro e w3 ⟨G, rfl, hG, out, hb3⟩
  have hw3 := hw2.trans (hb3.mono hw2.size)
  replace g0 := cell_below hb3 g0
  replace g1 := cell_below hb3 g1
  replace s2 := s2.below hb3
  have Out := Lib.hid out
  clear out
  go_wp2_with fail
  refine (Pool_any (m : Int) _ ss _ (hv.below hw3) (by omega) Htl.out).mono ?_; rintro e w4 ⟨v4, rfl, s4, hb4⟩
  have hw4 := hw3.trans (hb4.mono hw3.size)
  replace g0 := cell_below hb4 g0
  replace g1 := cell_below hb4 g1
  obtain ⟨A4, c4, rfl, hc4, hm4⟩ := s4.form
  go_wp2_with fail
  refine (HWid.out _ _ s4).mono ?_; rintro e w5 ⟨rfl, hb5⟩
  have hw5 := hw4.trans (hb5.mono hw4.size)
  replace g0 := cell_below hb5 g0
  replace g1 := cell_below hb5 g1
  replace s4 := s4.below hb5
  go_wp2_with fail
  refine (fault_any (m : Int) _ ss _ (hv.below hw5)).mono ?_; rintro e w6 ⟨rfl, hb6⟩
  have hw6 := hw5.trans (hb6.mono hw5.size)
  replace g0 := cell_below hb6 g0
  replace g1 := cell_below hb6 g1
  rw [hf]
  have out : OutAt w6 G (fun c => boundK ss c ss.length) m := ((Out.out.kept ((hb4.trans (hb5.mono hb4.size)).block G Out.out.lt)).kept (hb6.block G (by have := Out.out.lt; have := (hb4.trans (hb5.mono hb4.size)).size; omega)))
  have Out' := Lib.hid out
  have hlG := out.lt
  clear Out out hf
  go_wp2_with fail
  go_loopw [9] (fun x wr => ∃ k : Nat, k ≤ m ∧ x = .int .i64 k ∧ Below w6.heap.size w6 wr) (fun x wr => m - (intOf x).toNat)
  case atStart => exact ⟨0, by omega, rfl, Below.refl _ _⟩
  case round =>
    obtain ⟨k, hk, rfl, hbr⟩ := hrel
    obtain ⟨wo, rfl⟩ : ∃ wo : World, wo = wr := ⟨_, rfl⟩
    have hwo := hw6.trans (hbr.mono hw6.size)
    replace g0 := cell_below hbr g0
    replace g1 := cell_below hbr g1
    by_cases hlt : k < m
    · have hltI : (k : Int) < (m : Int) := by omega
      have i0 : (0 : Int) ≤ (k : Int) := by omega
      have c0 : wo.cell? ⟨G, k * 2, none⟩ = some (.int .i64 (boundK ss k ss.length).1) := cell_below hbr (Out'.out.c0 hlt)
      have c1 : wo.cell? ⟨G, k * 2 + 1, none⟩ = some (.int .i64 (boundK ss k ss.length).2) := cell_below hbr (Out'.out.c1 hlt)
      go_wp2_with fail
      go_loopw [10, 11, 12] (fun a b i wq => ∃ j : Nat, j ≤ ss.length ∧ i = .int .i64 j ∧ a = .int .i64 (boundK ss k j).1 ∧ b = .int .i64 (boundK ss k j).2 ∧ Below wo.heap.size wo wq) (fun a b i wq => ss.length - (intOf i).toNat)
      case atStart => exact ⟨0, by omega, rfl, rfl, rfl, Below.refl _ _⟩
      case round =>
        obtain ⟨j, hj, rfl, rfl, rfl, hbq⟩ := hrel
        obtain ⟨wp, rfl⟩ : ∃ wp : World, wp = wr := ⟨_, rfl⟩
        have hwp := hwo.trans (hbq.mono hwo.size)
        replace g0 := cell_below hbq g0
        replace g1 := cell_below hbq g1
        by_cases hltj : j < ss.length
        · have hltJ : (j : Int) < (ss.length : Int) := by omega
          obtain ⟨b, o, s, y, rfl, hs, hy0, d0, d1, d2, d3, hby⟩ := hv.at_ hltj
          have e0 := cell_below hwp d0
          have e1 := cell_below hwp d1
          have e2 := cell_below hwp d2
          have e3 := cell_below hwp d3
          have q1 := Hval.out j s hs
          have hs4 := H4.out j s hs
          have hl := (stratB_iff.1 q1).2.2.2.2.1
          have bd := boundK_bd Hval.out k j
          have bd2 := rangeAt_bd q1 k
          have Hst : Hid (boundK ss k (j + 1) = addP (boundK ss k j) (rangeAt s k)) := by
            show boundK ss k (j + 1) = _
            simp [boundK, hs]
          obtain ⟨D, F, rfl, hD, hD'⟩ := hy0.form
          have hspan := Lib.hid fun W (h : NumsAt .i64 W (.slice D s.seen.length F) s.seen) => Span_any (m : Int) s _ k W h hn1 hn5 q1 hs4 (by omega)
          have hy := hy0.below hwp
          clear hs q1 d0 d1 d2 d3
          obtain ⟨x1, hx1⟩ : ∃ x, (boundK ss k j).1 = x := ⟨_, rfl⟩
          obtain ⟨x2, hx2⟩ : ∃ x, (boundK ss k j).2 = x := ⟨_, rfl⟩
          obtain ⟨y1, hy1⟩ : ∃ x, (rangeAt s k).1 = x := ⟨_, rfl⟩
          obtain ⟨y2, hy2⟩ : ∃ x, (rangeAt s k).2 = x := ⟨_, rfl⟩
          have Hs1 : Hid ((boundK ss k (j + 1)).1 = x1 + y1) := by show _ = _; rw [Hst.out]; simp [addP, hx1, hy1]
          have Hs2 : Hid ((boundK ss k (j + 1)).2 = x2 + y2) := by show _ = _; rw [Hst.out]; simp [addP, hx2, hy2]
          rw [hx1, hx2] at bd ⊢
          rw [hy1, hy2] at bd2 hspan
          have b1 : 0 ≤ x1 ∧ x1 ≤ 100000000000000 := by omega
          have b2 : 0 ≤ x2 ∧ x2 ≤ 100000000000000 := by omega
          have b3 : 0 ≤ y1 ∧ y1 ≤ 10000000000000 := bd2.1
          have b4 : 0 ≤ y2 ∧ y2 ≤ 10000000000000 := bd2.2
          clear hx1 hx2 hy1 hy2 Hst bd bd2
          go_wp2_with fail
          refine (hspan.out _ hy).mono ?_; rintro e w20 ⟨rfl, hb20⟩
          have hb21 : Below wp.heap.size wp (w20.alloc (.cells #[.int .i64 y1, .int .i64 y2] 42)) := hb20.alloc hb20.size _
          have z0 : (w20.alloc (.cells #[.int .i64 y1, .int .i64 y2] 42)).cell? ⟨w20.heap.size, 0, none⟩ = some (.int .i64 y1) := by simp [go_sem]
          have z1 : (w20.alloc (.cells #[.int .i64 y1, .int .i64 y2] 42)).cell? ⟨w20.heap.size, 1, none⟩ = some (.int .i64 y2) := by simp [go_sem]
          have x0 := Later.cell z0
          have x1 := Later.cell z1
          go_wp2_with fail
          refine wp_region_later (by kernel_rfl) (by kernel_rfl) ?_
          repeat (go_big_quiet_step (fail))
          refine wpQuiet_nil ?_
          intro w30 hx30
          have hb30 := Later.out hx30
          clear hx30 x0 x1
          have hb31 := hb21.trans (hb30.mono hb21.size)
          go_wp2
          go_roundw
          case rel => exact ⟨j + 1, by omega, by go_num, by rw [Hs1.out], by rw [Hs2.out], hbq.trans (hb31.mono hbq.size)⟩
          case measure => simp [intOf]; omega
        · obtain rfl : j = ss.length := by omega
          replace c0 := cell_below hbq c0
          replace c1 := cell_below hbq c1
          go_wp2_with fail
          go_roundw
          case rel => exact ⟨k + 1, by omega, by go_num, hbr.trans (hbq.mono hbr.size)⟩
          case measure => simp [intOf]; omega
    · obtain rfl : k = m := by omega
      by_cases hl0 : ss.length = 0
      · have l0 : (ss.length : Int) = 0 := by omega
        obtain rfl : (0 : Int) = kI := by have := HkI.out; rw [hl0] at this; exact this
        obtain rfl : (0 : Int) = wI := by have := HwI.out; rw [hl0] at this; exact this
        obtain rfl : (7 : Int) = fI := by have := HfI.out; rw [if_pos hl0] at this; exact this
        go_wp2_with fail
        refine (wakes_any _).mono ?_; rintro e w40 ⟨rfl, hb40⟩
        go_wp2
        go_ret
        exact ⟨rfl, hwo.trans (hb40.mono hwo.size)⟩
      · have l0 : ((ss.length : Int) == 0) = false := beq_eq_false_iff_ne.2 (by omega)
        have l1 : (0 : Int) < (ss.length : Int) := by omega
        obtain rfl : (0 : Int) = fI := by have := HfI.out; rw [if_neg hl0] at this; exact this
        clear HfI
        go_wp2_with fail
        go_loopw [14, 15] (fun x i wq => ∃ (j b' : Nat), 1 ≤ j ∧ j ≤ ss.length ∧ i = .int .i64 j ∧ x = .int .i64 b' ∧ b' < j ∧ widK ss j = ((b' : Int), widthS (ss[b']?.getD Strat.none)) ∧ Below wo.heap.size wo wq) (fun x i wq => ss.length - (intOf i).toNat)
        case atStart =>
          obtain ⟨b, hb, e⟩ := widK_best Hval.out 1 (by omega) (by omega)
          obtain rfl : b = 0 := by omega
          exact ⟨1, 0, by omega, by omega, rfl, rfl, by omega, e, Below.refl _ _⟩
        case round =>
          obtain ⟨j, b', hj1, hj, rfl, rfl, hbj, hwid, hbq⟩ := hrel
          have Hwid := Lib.hid hwid
          clear hwid
          obtain ⟨wp, rfl⟩ : ∃ wp : World, wp = wr := ⟨_, rfl⟩
          have hwp := hwo.trans (hbq.mono hwo.size)
          replace g0 := cell_below hbq g0
          replace g1 := cell_below hbq g1
          obtain ⟨b2, o2, s2, y2, rfl, hs2, hy2, f0, f1, f2, f3, hby2⟩ := hv.at_ (k := b') (by omega)
          have q2 := Hval.out b' s2 hs2
          have hs42 := H4.out b' s2 hs2
          obtain ⟨D2, F2, rfl, hD2, hD2'⟩ := hy2.form
          have hwid2 := Lib.hid fun W (h : NumsAt .i64 W (.slice D2 s2.seen.length F2) s2.seen) => Width_any _ s2 _ W h hn1 hn5 q2 hs42
          have hyy2 := hy2.below hwp
          replace f0 := cell_below hwp f0
          replace f1 := cell_below hwp f1
          replace f2 := cell_below hwp f2
          replace f3 := cell_below hwp f3
          have Hq : Hid (widK ss j = ((b' : Int), widthS s2)) := by
            show _ = _
            rw [Hwid.out, hs2]
            rfl
          obtain ⟨p2, hp2⟩ : ∃ x, widthS s2 = x := ⟨_, rfl⟩
          rw [hp2] at hwid2 Hq
          have Hp2 := Lib.hid hp2
          have Hs2 := Lib.hid hs2
          have hbI : (0 : Int) ≤ (b' : Int) := by omega
          have hbI2 : (b' : Int) < (ss.length : Int) := by omega
          clear hp2 q2 hs2
          by_cases hltj : j < ss.length
          · have hltJ : (j : Int) < (ss.length : Int) := by omega
            obtain ⟨b3, o3, s, y, e3, hs, hy0, d0, d1, d2, d3, hby⟩ := hv.at_ hltj
            cases e3
            have q1 := Hval.out j s hs
            have hs4 := H4.out j s hs
            obtain ⟨D, F, rfl, hD, hD'⟩ := hy0.form
            have hwid1 := Lib.hid fun W (h : NumsAt .i64 W (.slice D s.seen.length F) s.seen) => Width_any _ s _ W h hn1 hn5 q1 hs4
            have hyy := hy0.below hwp
            replace d0 := cell_below hwp d0
            replace d1 := cell_below hwp d1
            replace d2 := cell_below hwp d2
            replace d3 := cell_below hwp d3
            have Hst : Hid (widK ss (j + 1) = if (widK ss j).2 < widthS s then ((j : Int), widthS s) else widK ss j) := by
              show _ = _
              simp only [widK, hs, Option.getD_some]
            obtain ⟨p1, hp1⟩ : ∃ x, widthS s = x := ⟨_, rfl⟩
            rw [hp1] at hwid1 Hst
            have Hp1 := Lib.hid hp1
            have Hs := Lib.hid hs
            clear hp1 q1 hs
            have xg := Later.cell g1
            have x0 := Later.cell d0
            have x1 := Later.cell d1
            have x2 := Later.cell d2
            have x3 := Later.cell d3
            have x4 := Later.cell f0
            have x5 := Later.cell f1
            have x6 := Later.cell f2
            have x7 := Later.cell f3
            go_wp2_with fail
            refine wp_region_later (by kernel_rfl) (by kernel_rfl) ?_
            repeat (go_big_quiet_step (first
              | (go_at_call 46; with_reducible exact Later.call (hwid1.out _ (hyy.below (Subtype.property _))))
              | (go_at_call 46; with_reducible exact Later.call (hwid2.out _ (hyy2.below (Subtype.property _))))))
            refine wpQuiet_nil ?_
            intro w30 hx30
            have hb30 := Later.out hx30
            clear hx30 xg x0 x1 x2 x3 x4 x5 x6 x7
            go_wp2
            · have q : p2 < p1 := by assumption
              go_roundw
              case rel =>
                refine ⟨j + 1, j, by omega, by omega, by go_num, rfl, by omega, ?_, hbq.trans (hb30.mono hbq.size)⟩
                rw [Hst.out, Hq.out, Hs.out, Option.getD_some, Hp1.out]
                exact if_pos q
              case measure => simp [intOf]; omega
            · have q : p1 ≤ p2 := by assumption
              go_roundw
              case rel =>
                refine ⟨j + 1, b', by omega, by omega, by go_num, rfl, by omega, ?_, hbq.trans (hb30.mono hbq.size)⟩
                rw [Hst.out, Hq.out, Hs2.out, Option.getD_some, Hp2.out]
                exact if_neg (by simp only; omega)
              case measure => simp [intOf]; omega
          · obtain rfl : j = ss.length := by omega
            obtain rfl : (b' : Int) = kI := by have := HkI.out; rw [Hq.out] at this; exact this
            obtain rfl : p2 = wI := by have := HwI.out; rw [Hq.out] at this; exact this
            go_wp2_with fail
            refine (hwid2.out _ hyy2).mono ?_; rintro e w40 ⟨rfl, hb40⟩
            have hw40 := hwp.trans (hb40.mono hwp.size)
            go_wp2_with fail
            refine (wakes_any _).mono ?_; rintro e w41 ⟨rfl, hb41⟩
            go_wp2
            go_ret
            exact ⟨rfl, hw40.trans (hb41.mono hw40.size)⟩

theorem LBounds_law (n : Int) (v : Value) (ss : List Strat) (w : World) (hv : StrataAt w v ss) :
    Calls Try.prog 11 #[.agg #[.int .i64 n, v]] w (Gives w (.bool true)) := by
  cases ht : fewB n ss with
  | false => exact LBounds_not n v ss w hv ht
  | true =>
    by_cases hf : faultI n ss = 0
    · exact LBounds_ok n v ss w hv ht hf
    · exact LBounds_fault n v ss w hv ht (by simpa using hf)
end Go.Proofs.Ytobeffjdfhkjeaa
