import Derived.Test.YtobeffjdfhkjeaaWake
import Derived.Test.YtobeffjdfhkjeaaO
set_option linter.unusedVariables false
set_option linter.unusedSimpArgs false
namespace Go.Proofs.Ytobeffjdfhkjeaa
open Go Go.Proofs Go.RowKit

theorem thin_len {ss : List Strat} (h : thinB ss = true) : ss.length ≤ 12 ∧ ∀ (j : Nat) (s : Strat), ss[j]? = some s → s.seen.length ≤ 9 := by
  simp only [thinB, Bool.and_eq_true, decide_eq_true_eq, List.all_eq_true] at h
  exact ⟨h.1, fun j s hs => h.2 s (List.mem_of_getElem? hs)⟩
theorem short_len {ll : List (List Int)} (h : shortB ll = true) : ll.length ≤ 12 ∧ ∀ (j : Nat) (l : List Int), ll[j]? = some l → l.length ≤ 9 := by
  simp only [shortB, Bool.and_eq_true, decide_eq_true_eq, List.all_eq_true] at h
  exact ⟨h.1, fun j s hs => h.2 s (List.mem_of_getElem? hs)⟩

theorem Gets_thin (n : Int) (v u : Value) (ss : List Strat) (ll : List (List Int)) (w : World) (hv : StrataAt w v ss) (hu : RowsAt w u ll) (ht : thinB ss = false) :
    Calls Try.prog 3 #[.agg #[.int .i64 n, v], u] w (Gives w (.bool true)) := by
  have hb0 : Below w.heap.size w (w.alloc (.cells #[.int .i64 n, v] 24)) := (Below.refl _ _).alloc (Nat.le_refl _) _
  obtain ⟨A, c, rfl, hc, hm⟩ := hv.form
  go_enter Try.func3, Try.ntmps3
  go_wp2_with (first
    | (go_at_call 16; refine (Gives.to ht (thin_any n _ ss _ (hv.below hb0))).mono ?_; rintro e w1 ⟨rfl, hb1⟩)
    | (go_at_call 18; refine (wakes_any _).mono ?_; rintro e w2 ⟨rfl, hb2⟩))
  go_ret
  exact ⟨rfl, hb0.trans ((hb1.trans (hb2.mono hb1.size)).mono hb0.size)⟩

theorem Gets_short (n : Int) (v u : Value) (ss : List Strat) (ll : List (List Int)) (w : World) (hv : StrataAt w v ss) (hu : RowsAt w u ll) (ht : thinB ss = true) (hs : shortB ll = false) :
    Calls Try.prog 3 #[.agg #[.int .i64 n, v], u] w (Gives w (.bool true)) := by
  have hb0 : Below w.heap.size w (w.alloc (.cells #[.int .i64 n, v] 24)) := (Below.refl _ _).alloc (Nat.le_refl _) _
  obtain ⟨A, c, rfl, hc, hm⟩ := hv.form
  go_enter Try.func3, Try.ntmps3
  go_wp2_with (first
    | (go_at_call 16; refine (Gives.to ht (thin_any n _ ss _ (hv.below hb0))).mono ?_; rintro e w1 ⟨rfl, hb1⟩; have hw1 := hb0.trans (hb1.mono hb0.size))
    | (go_at_call 17; refine (Gives.to hs (short_any _ ll _ (hu.below hw1))).mono ?_; rintro e w2 ⟨rfl, hb2⟩; have hw2 := hw1.trans (hb2.mono hw1.size))
    | (go_at_call 18; refine (wakes_any _).mono ?_; rintro e w3 ⟨rfl, hb3⟩))
  go_ret
  exact ⟨rfl, hw2.trans (hb3.mono hw2.size)⟩

set_option maxRecDepth 100000 in
set_option maxHeartbeats 3200000 in
theorem Gets_fault (n : Int) (v u : Value) (ss : List Strat) (ll : List (List Int)) (w : World) (hv : StrataAt w v ss) (hu : RowsAt w u ll) (ht : thinB ss = true) (hs : shortB ll = true) (hf : (faultI n ss != 0) = true) :
    Calls Try.prog 3 #[.agg #[.int .i64 n, v], u] w (Gives w (.bool true)) := by
  have hb0 : Below w.heap.size w (w.alloc (.cells #[.int .i64 n, v] 24)) := (Below.refl _ _).alloc (Nat.le_refl _) _
  obtain ⟨A, c, rfl, hc, hm⟩ := hv.form
  obtain ⟨tl, tl9⟩ := thin_len ht
  obtain ⟨sl, sl9⟩ := short_len hs
  have Htl := Lib.hid (fun (j : Nat) (s : Strat) (h : ss[j]? = some s) => Nat.le_trans (tl9 j s h) (by decide : 9 ≤ 1000))
  have Hsl := Lib.hid (fun (j : Nat) (l : List Int) (h : ll[j]? = some l) => Nat.le_trans (sl9 j l h) (by decide : 9 ≤ 1000))
  clear tl9 sl9
  have hf' : (faultI n ss == 0) = false := by simpa using hf
  go_enter Try.func3, Try.ntmps3
  have g0 : (w.alloc (.cells #[.int .i64 n, .slice A ss.length c] 24)).cell? ⟨w.heap.size, 0, none⟩ = some (.int .i64 n) := by simp [go_sem]
  have g1 : (w.alloc (.cells #[.int .i64 n, .slice A ss.length c] 24)).cell? ⟨w.heap.size, 1, none⟩ = some (.slice A ss.length c) := by simp [go_sem]
  go_wp2_with fail
  refine (Gives.to ht (thin_any n _ ss _ (hv.below hb0))).mono ?_; rintro e w1 ⟨rfl, hb1⟩
  have hw1 := hb0.trans (hb1.mono hb0.size)
  replace g0 := cell_below hb1 g0
  replace g1 := cell_below hb1 g1
  go_wp2_with fail
  refine (Gives.to hs (short_any _ ll _ (hu.below hw1))).mono ?_; rintro e w2 ⟨rfl, hb2⟩
  have hw2 := hw1.trans (hb2.mono hw1.size)
  replace g0 := cell_below hb2 g0
  replace g1 := cell_below hb2 g1
  go_wp2_with fail
  refine (Pool_any n _ ss _ (hv.below hw2) (by omega) Htl.out).mono ?_; rintro e w3 ⟨v3, rfl, s3, hb3⟩
  have hw3 := hw2.trans (hb3.mono hw2.size)
  replace g0 := cell_below hb3 g0
  replace g1 := cell_below hb3 g1
  go_wp2_with fail
  refine (checkPool_any n _ ss _ s3).mono ?_; rintro e w4 ⟨rfl, hb4⟩
  have hw4 := hw3.trans (hb4.mono hw3.size)
  replace g0 := cell_below hb4 g0
  replace g1 := cell_below hb4 g1
  go_wp2_with fail
  refine (Pool_any n _ ss _ (hv.below hw4) (by omega) Htl.out).mono ?_; rintro e w5 ⟨v5, rfl, s5, hb5⟩
  have hw5 := hw4.trans (hb5.mono hw4.size)
  replace g0 := cell_below hb5 g0
  replace g1 := cell_below hb5 g1
  obtain ⟨A5, c5, rfl, hc5, hm5⟩ := s5.form
  go_wp2_with fail
  refine (rows_any _ ll _ (hu.below hw5) (by omega) Hsl.out).mono ?_; rintro e w6 ⟨A6, c6, us6, rfl, o6, q6, hb6⟩
  have hw6 := hw5.trans (hb6.mono hw5.size)
  replace g0 := cell_below hb6 g0
  replace g1 := cell_below hb6 g1
  have r6 := rows_of_own o6 q6
  have s56 := s5.below hb6
  go_wp2_with fail
  refine (Get_fault n _ _ ss _ s56 hf).mono ?_; rintro e w7 ⟨rfl, hb7⟩
  have hw7 := hw6.trans (hb7.mono hw6.size)
  replace g0 := cell_below hb7 g0
  replace g1 := cell_below hb7 g1
  go_wp2_with fail
  refine (fault_any n _ ss _ (hv.below hw7)).mono ?_; rintro e w8 ⟨rfl, hb8⟩
  have hw8 := hw7.trans (hb8.mono hw7.size)
  replace g0 := cell_below hb8 g0
  replace g1 := cell_below hb8 g1
  go_wp2_with fail
  refine (wakes_any _).mono ?_; rintro e w9 ⟨rfl, hb9⟩
  have hw9 := hw8.trans (hb9.mono hw8.size)
  replace g0 := cell_below hb9 g0
  replace g1 := cell_below hb9 g1
  go_wp2
  go_ret
  exact ⟨rfl, hw9⟩

set_option maxRecDepth 100000 in
set_option maxHeartbeats 3200000 in
theorem Gets_range (n : Int) (v u : Value) (ss : List Strat) (ll : List (List Int)) (w : World) (hv : StrataAt w v ss) (hu : RowsAt w u ll) (ht : thinB ss = true) (hs : shortB ll = true) (hf : faultI n ss = 0) (hl : truthB n ss ll = false) :
    Calls Try.prog 3 #[.agg #[.int .i64 n, v], u] w (Gives w (.bool true)) := by
  have hb0 : Below w.heap.size w (w.alloc (.cells #[.int .i64 n, v] 24)) := (Below.refl _ _).alloc (Nat.le_refl _) _
  obtain ⟨A, c, rfl, hc, hm⟩ := hv.form
  obtain ⟨tl, tl9⟩ := thin_len ht
  obtain ⟨sl, sl9⟩ := short_len hs
  have Htl := Lib.hid (fun (j : Nat) (s : Strat) (h : ss[j]? = some s) => Nat.le_trans (tl9 j s h) (by decide : 9 ≤ 1000))
  have Hsl := Lib.hid (fun (j : Nat) (l : List Int) (h : ll[j]? = some l) => Nat.le_trans (sl9 j l h) (by decide : 9 ≤ 1000))
  clear tl9 sl9
  have hn5 := (fault_zero hf).2.2.1
  have Hval := Lib.hid (fault_zero hf).2.2.2
  go_enter Try.func3, Try.ntmps3
  have g0 : (w.alloc (.cells #[.int .i64 n, .slice A ss.length c] 24)).cell? ⟨w.heap.size, 0, none⟩ = some (.int .i64 n) := by simp [go_sem]
  have g1 : (w.alloc (.cells #[.int .i64 n, .slice A ss.length c] 24)).cell? ⟨w.heap.size, 1, none⟩ = some (.slice A ss.length c) := by simp [go_sem]
  go_wp2_with fail
  refine (Gives.to ht (thin_any n _ ss _ (hv.below hb0))).mono ?_; rintro e w1 ⟨rfl, hb1⟩
  have hw1 := hb0.trans (hb1.mono hb0.size)
  replace g0 := cell_below hb1 g0
  replace g1 := cell_below hb1 g1
  go_wp2_with fail
  refine (Gives.to hs (short_any _ ll _ (hu.below hw1))).mono ?_; rintro e w2 ⟨rfl, hb2⟩
  have hw2 := hw1.trans (hb2.mono hw1.size)
  replace g0 := cell_below hb2 g0
  replace g1 := cell_below hb2 g1
  go_wp2_with fail
  refine (Pool_any n _ ss _ (hv.below hw2) (by omega) Htl.out).mono ?_; rintro e w3 ⟨v3, rfl, s3, hb3⟩
  have hw3 := hw2.trans (hb3.mono hw2.size)
  replace g0 := cell_below hb3 g0
  replace g1 := cell_below hb3 g1
  go_wp2_with fail
  refine (checkPool_any n _ ss _ s3).mono ?_; rintro e w4 ⟨rfl, hb4⟩
  have hw4 := hw3.trans (hb4.mono hw3.size)
  replace g0 := cell_below hb4 g0
  replace g1 := cell_below hb4 g1
  go_wp2_with fail
  refine (Pool_any n _ ss _ (hv.below hw4) (by omega) Htl.out).mono ?_; rintro e w5 ⟨v5, rfl, s5, hb5⟩
  have hw5 := hw4.trans (hb5.mono hw4.size)
  replace g0 := cell_below hb5 g0
  replace g1 := cell_below hb5 g1
  obtain ⟨A5, c5, rfl, hc5, hm5⟩ := s5.form
  go_wp2_with fail
  refine (rows_any _ ll _ (hu.below hw5) (by omega) Hsl.out).mono ?_; rintro e w6 ⟨A6, c6, us6, rfl, o6, q6, hb6⟩
  have hw6 := hw5.trans (hb6.mono hw5.size)
  replace g0 := cell_below hb6 g0
  replace g1 := cell_below hb6 g1
  have r6 := rows_of_own o6 q6
  have s56 := s5.below hb6
  go_wp2_with fail
  refine (Get_range n _ _ ss ll _ s56 r6 hf hl).mono ?_; rintro e w7 ⟨rfl, hb7⟩
  have hw7 := hw6.trans (hb7.mono hw6.size)
  replace g0 := cell_below hb7 g0
  replace g1 := cell_below hb7 g1
  go_wp2_with fail
  refine (fault_any n _ ss _ (hv.below hw7)).mono ?_; rintro e w8 ⟨rfl, hb8⟩
  have hw8 := hw7.trans (hb8.mono hw7.size)
  replace g0 := cell_below hb8 g0
  replace g1 := cell_below hb8 g1
  rw [hf]
  go_wp2_with fail
  refine (Gives.to hl (IsTruth_any n _ _ ss ll _ (hv.below hw8) (hu.below hw8) hn5 Hval.out)).mono ?_; rintro e w9 ⟨rfl, hb9⟩
  have hw9 := hw8.trans (hb9.mono hw8.size)
  replace g0 := cell_below hb9 g0
  replace g1 := cell_below hb9 g1
  go_wp2_with fail
  refine (wakes_any _).mono ?_; rintro e w10 ⟨rfl, hb10⟩
  have hw10 := hw9.trans (hb10.mono hw9.size)
  replace g0 := cell_below hb10 g0
  replace g1 := cell_below hb10 g1
  go_wp2
  go_ret
  exact ⟨rfl, hw10⟩
end Go.Proofs.Ytobeffjdfhkjeaa
