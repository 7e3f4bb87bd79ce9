import Derived.Test.YtobeffjdfhkjeaaPv
import Derived.Deep.CutRange
import Derived.Deep.Cut
set_option linter.unusedVariables false
set_option linter.unusedSimpArgs false
namespace Go.Proofs.Ytobeffjdfhkjeaa
open Go Go.Proofs Go.RowKit


def fewB (n : Int) (ss : List Strat) : Bool := thinB ss && ((faultI n ss != 0) || ((ss.all fun s => decide (s.hi - sumL s.seen ≤ 4)) && decide (n ≤ 4)))

set_option maxRecDepth 100000 in
set_option maxHeartbeats 1600000 in
theorem Few_any (n : Int) (v : Value) (ss : List Strat) (w : World) (hv : StrataAt w v ss) :
    Calls Try.prog 37 #[.agg #[.int .i64 n, v]] w (Gives w (.bool (fewB n ss))) := by
  have hb0 : Below w.heap.size w (w.alloc (.cells #[.int .i64 n, v] 24)) := (Below.refl _ _).alloc (Nat.le_refl _) _
  obtain ⟨A, c, rfl, hc, hm⟩ := hv.form
  cases ht : thinB ss with
  | false =>
    have e : fewB n ss = false := by simp [fewB, ht]
    rw [e]
    clear e
    go_enter Try.func37, Try.ntmps37
    go_wp2_with (go_at_call 16; refine (Gives.to ht (thin_any n _ ss _ (hv.below hb0))).mono ?_; rintro e w1 ⟨rfl, hb1⟩)
    go_ret
    exact ⟨rfl, hb0.trans (hb1.mono hb0.size)⟩
  | true =>
    obtain ⟨tl, _⟩ := thin_len ht
    have g0 : (w.alloc (.cells #[.int .i64 n, .slice A ss.length c] 24)).cell? ⟨w.heap.size, 0, none⟩ = some (.int .i64 n) := by simp [go_sem]
    have g1 : (w.alloc (.cells #[.int .i64 n, .slice A ss.length c] 24)).cell? ⟨w.heap.size, 1, none⟩ = some (.slice A ss.length c) := by simp [go_sem]
    by_cases hf : faultI n ss = 0
    · have e : fewB n ss = ((ss.all fun s => decide (s.hi - sumL s.seen ≤ 4)) && decide (n ≤ 4)) := by simp [fewB, ht, hf]
      obtain ⟨hs8, hn1, hn5, hval⟩ := fault_zero hf
      have Hval := Lib.hid hval
      have He := Lib.hid e
      clear e hval
      go_enter Try.func37, Try.ntmps37
      go_wp2_with fail
      refine (Gives.to ht (thin_any n _ ss _ (hv.below hb0))).mono ?_; rintro e w1 ⟨rfl, hb1⟩
      have hw1 := hb0.trans (hb1.mono hb0.size)
      replace g0 := cell_below hb1 g0
      replace g1 := cell_below hb1 g1
      go_wp2_with fail
      refine (Fault_any n _ ss _ (hv.below hw1)).mono ?_; rintro e w2 ⟨rfl, hb2⟩
      rw [hf]
      have hw2 := hw1.trans (hb2.mono hw1.size)
      replace g0 := cell_below hb2 g0
      replace g1 := cell_below hb2 g1
      clear hf ht
      go_wp2_with fail
      go_loopw [3] (fun x wr => ∃ k : Nat, k ≤ ss.length ∧ x = .int .i64 k ∧ Below w2.heap.size w2 wr ∧ ∀ (j : Nat) (s : Strat), j < k → ss[j]? = some s → s.hi - sumL s.seen ≤ 4) (fun x wr => ss.length - (intOf x).toNat)
      case atStart => exact ⟨0, by omega, rfl, Below.refl _ _, by intro j s h; omega⟩
      case round =>
        obtain ⟨k, hk, rfl, hbr, hall⟩ := hrel
        obtain ⟨wo, rfl⟩ : ∃ wo : World, wo = wr := ⟨_, rfl⟩
        have Hall := Lib.hid hall
        clear hall
        replace g0 := cell_below hbr g0
        replace g1 := cell_below hbr g1
        have hwo := hw2.trans (hbr.mono hw2.size)
        by_cases hlt : k < ss.length
        · have hltI : (k : Int) < (ss.length : Int) := by omega
          obtain ⟨b, o, s, y, rfl, hs, hy, e0, e1, e2, e3, hby⟩ := (hv.below hwo).at_ hlt
          have q1 := Hval.out k s hs
          have hok := seen_ok hn5 q1
          have hsn := strat_nums q1
          have Hs := Lib.hid hs
          clear hs q1
          obtain ⟨D, F, rfl, hD, hD'⟩ := hy.form
          go_wp2_with (go_at_call 42; refine (Unseen_any s _ _ hy hok (by omega) (by omega)).mono ?_; rintro e w3 ⟨rfl, hb3⟩)
          · have q : 4 < s.hi - sumL s.seen := by assumption
            go_ret
            refine gives_bool ?_ (hwo.trans (hb3.mono hwo.size))
            rw [He.out, not_all_of Hs.out (by simpa using q)]
            rfl
          · have q : s.hi - sumL s.seen ≤ 4 := by assumption
            go_roundw
            case rel =>
              refine ⟨k + 1, by omega, by go_num, hbr.trans (hb3.mono hbr.size), fun j s' hj hs' => ?_⟩
              by_cases e : j = k
              · subst e
                rw [Hs.out] at hs'
                cases hs'
                exact q
              · exact Hall.out j s' (by omega) hs'
            case measure => simp [intOf]; omega
        · obtain rfl : k = ss.length := by omega
          have e : fewB n ss = decide (n ≤ 4) := by
            rw [He.out, all_of (p := fun s : Strat => decide (s.hi - sumL s.seen ≤ 4)) fun j s hj hs => by simpa using Hall.out j s hj hs]
            simp
          have He2 := Lib.hid e
          clear e
          go_wp2
          go_ret
          refine gives_bool ?_ hwo
          rw [He2.out]
    · have e : fewB n ss = true := by simp [fewB, ht, hf]
      have hf0 : (faultI n ss != 0) = true := by simpa using hf
      rw [e]
      clear e hf
      go_enter Try.func37, Try.ntmps37
      go_wp2_with fail
      refine (Gives.to ht (thin_any n _ ss _ (hv.below hb0))).mono ?_; rintro e w1 ⟨rfl, hb1⟩
      have hw1 := hb0.trans (hb1.mono hb0.size)
      replace g0 := cell_below hb1 g0
      replace g1 := cell_below hb1 g1
      go_wp2_with (go_at_call 32; refine (Fault_any n _ ss _ (hv.below hw1)).mono ?_; rintro e w2 ⟨rfl, hb2⟩)
      go_ret
      exact ⟨rfl, hw1.trans (hb2.mono hw1.size)⟩

def rightB (ss : List Strat) (coins : Int) (ms : List Int) (k : Nat) : Bool := decide (ms.length = ss.length) && provK ss coins ms k
theorem PN_any (n coins : Int) (v u : Value) (ss : List Strat) (ms : List Int) (w : World) (hv : StrataAt w v ss) (hu : NumsAt .i64 w u ms) (hf : faultI n ss = 0) (hc0 : inB coins 1 10000000 = true) :
    Calls Try.prog 39 #[.agg #[.int .i64 n, v], .int .i64 coins, u] w (Gives w (.bool (rightB ss coins ms ss.length))) := by
  by_cases hl : ms.length = ss.length
  · have := PN_ok n coins v u ss ms w hv hu hf hc0 hl
    simpa [rightB, hl] using this
  · have := PN_len n coins v u ss ms w hv hu hf hc0 hl
    simpa [rightB, hl] using this

set_option maxRecDepth 100000 in
set_option maxHeartbeats 3200000 in
theorem Needs_not (n coins : Int) (v u : Value) (ss : List Strat) (ms : List Int) (w : World) (hv : StrataAt w v ss) (hu : NumsAt .i64 w u ms) (ht : fewB n ss = false) :
    Calls Try.prog 10 #[.agg #[.int .i64 n, v], .int .i64 coins, u] w (Gives w (.bool true)) := by
  have hb0 : Below w.heap.size w (w.alloc (.cells #[.int .i64 n, v] 24)) := (Below.refl _ _).alloc (Nat.le_refl _) _
  obtain ⟨A, c, rfl, hc, hm⟩ := hv.form
  go_enter Try.func10, Try.ntmps10
  have g0 : (w.alloc (.cells #[.int .i64 n, .slice A ss.length c] 24)).cell? ⟨w.heap.size, 0, none⟩ = some (.int .i64 n) := by simp [go_sem]
  have g1 : (w.alloc (.cells #[.int .i64 n, .slice A ss.length c] 24)).cell? ⟨w.heap.size, 1, none⟩ = some (.slice A ss.length c) := by simp [go_sem]
  go_wp2_with fail
  refine (Gives.to ht (Few_any n _ ss _ (hv.below hb0))).mono ?_; rintro e w1 ⟨rfl, hb1⟩
  have hw1 := hb0.trans (hb1.mono hb0.size)
  replace g0 := cell_below hb1 g0
  replace g1 := cell_below hb1 g1
  go_wp2_with fail
  refine (wakes_any _).mono ?_; rintro e w2 ⟨rfl, hb2⟩
  have hw2 := hw1.trans (hb2.mono hw1.size)
  replace g0 := cell_below hb2 g0
  replace g1 := cell_below hb2 g1
  go_wp2
  go_ret
  exact ⟨rfl, hw2⟩

set_option maxRecDepth 100000 in
set_option maxHeartbeats 3200000 in
theorem Needs_long (n coins : Int) (v u : Value) (ss : List Strat) (ms : List Int) (w : World) (hv : StrataAt w v ss) (hu : NumsAt .i64 w u ms) (ht : fewB n ss = true) (hl : 12 < ms.length) :
    Calls Try.prog 10 #[.agg #[.int .i64 n, v], .int .i64 coins, u] w (Gives w (.bool true)) := by
  have hb0 : Below w.heap.size w (w.alloc (.cells #[.int .i64 n, v] 24)) := (Below.refl _ _).alloc (Nat.le_refl _) _
  obtain ⟨A, c, rfl, hc, hm⟩ := hv.form
  obtain ⟨Au, cu, rfl, hcu, hmu⟩ := hu.form
  have hlI : (12 : Int) < (ms.length : Int) := by omega
  go_enter Try.func10, Try.ntmps10
  have g0 : (w.alloc (.cells #[.int .i64 n, .slice A ss.length c] 24)).cell? ⟨w.heap.size, 0, none⟩ = some (.int .i64 n) := by simp [go_sem]
  have g1 : (w.alloc (.cells #[.int .i64 n, .slice A ss.length c] 24)).cell? ⟨w.heap.size, 1, none⟩ = some (.slice A ss.length c) := by simp [go_sem]
  go_wp2_with fail
  refine (Gives.to ht (Few_any n _ ss _ (hv.below hb0))).mono ?_; rintro e w1 ⟨rfl, hb1⟩
  have hw1 := hb0.trans (hb1.mono hb0.size)
  replace g0 := cell_below hb1 g0
  replace g1 := cell_below hb1 g1
  go_wp2_with fail
  refine (wakes_any _).mono ?_; rintro e w2 ⟨rfl, hb2⟩
  have hw2 := hw1.trans (hb2.mono hw1.size)
  replace g0 := cell_below hb2 g0
  replace g1 := cell_below hb2 g1
  go_wp2
  go_ret
  exact ⟨rfl, hw2⟩

set_option maxRecDepth 100000 in
set_option maxHeartbeats 3200000 in
theorem Needs_many (n coins : Int) (v u : Value) (ss : List Strat) (ms : List Int) (w : World) (hv : StrataAt w v ss) (hu : NumsAt .i64 w u ms) (ht : fewB n ss = true) (hl : ms.length ≤ 12) (hf : faultI n ss = 0) (hn : 3 < n) :
    Calls Try.prog 10 #[.agg #[.int .i64 n, v], .int .i64 coins, u] w (Gives w (.bool true)) := by
  have hb0 : Below w.heap.size w (w.alloc (.cells #[.int .i64 n, v] 24)) := (Below.refl _ _).alloc (Nat.le_refl _) _
  obtain ⟨A, c, rfl, hc, hm⟩ := hv.form
  obtain ⟨Au, cu, rfl, hcu, hmu⟩ := hu.form
  have hlI : (ms.length : Int) ≤ 12 := by omega
  go_enter Try.func10, Try.ntmps10
  have g0 : (w.alloc (.cells #[.int .i64 n, .slice A ss.length c] 24)).cell? ⟨w.heap.size, 0, none⟩ = some (.int .i64 n) := by simp [go_sem]
  have g1 : (w.alloc (.cells #[.int .i64 n, .slice A ss.length c] 24)).cell? ⟨w.heap.size, 1, none⟩ = some (.slice A ss.length c) := by simp [go_sem]
  go_wp2_with fail
  refine (Gives.to ht (Few_any n _ ss _ (hv.below hb0))).mono ?_; rintro e w1 ⟨rfl, hb1⟩
  have hw1 := hb0.trans (hb1.mono hb0.size)
  replace g0 := cell_below hb1 g0
  replace g1 := cell_below hb1 g1
  go_wp2_with fail
  refine (Fault_any n _ ss _ (hv.below hw1)).mono ?_; rintro e w2 ⟨rfl, hb2⟩
  have hw2 := hw1.trans (hb2.mono hw1.size)
  replace g0 := cell_below hb2 g0
  replace g1 := cell_below hb2 g1
  rw [hf]
  go_wp2_with fail
  refine (wakes_any _).mono ?_; rintro e w3 ⟨rfl, hb3⟩
  have hw3 := hw2.trans (hb3.mono hw2.size)
  replace g0 := cell_below hb3 g0
  replace g1 := cell_below hb3 g1
  go_wp2
  go_ret
  exact ⟨rfl, hw3⟩

set_option maxRecDepth 100000 in
set_option maxHeartbeats 3200000 in
theorem Needs_fault (n coins : Int) (v u : Value) (ss : List Strat) (ms : List Int) (w : World) (hv : StrataAt w v ss) (hu : NumsAt .i64 w u ms) (ht : fewB n ss = true) (hl : ms.length ≤ 12) (hf : (faultI n ss != 0) = true) :
    Calls Try.prog 10 #[.agg #[.int .i64 n, v], .int .i64 coins, u] w (Gives w (.bool true)) := by
  have hb0 : Below w.heap.size w (w.alloc (.cells #[.int .i64 n, v] 24)) := (Below.refl _ _).alloc (Nat.le_refl _) _
  obtain ⟨A, c, rfl, hc, hm⟩ := hv.form
  obtain ⟨Au, cu, rfl, hcu, hmu⟩ := hu.form
  have ht0 : thinB ss = true := by
    simp only [fewB, Bool.and_eq_true] at ht
    exact ht.1
  obtain ⟨tl, tl9⟩ := thin_len ht0
  have Htl := Lib.hid (fun (j : Nat) (s : Strat) (h : ss[j]? = some s) => Nat.le_trans (tl9 j s h) (by decide : 9 ≤ 1000))
  have hlI : (ms.length : Int) ≤ 12 := by omega
  clear tl9 ht0
  have hf' : (faultI n ss == 0) = false := by simpa using hf
  go_enter Try.func10, Try.ntmps10
  have g0 : (w.alloc (.cells #[.int .i64 n, .slice A ss.length c] 24)).cell? ⟨w.heap.size, 0, none⟩ = some (.int .i64 n) := by simp [go_sem]
  have g1 : (w.alloc (.cells #[.int .i64 n, .slice A ss.length c] 24)).cell? ⟨w.heap.size, 1, none⟩ = some (.slice A ss.length c) := by simp [go_sem]
  go_wp2_with fail
  refine (Gives.to ht (Few_any n _ ss _ (hv.below hb0))).mono ?_; rintro e w1 ⟨rfl, hb1⟩
  have hw1 := hb0.trans (hb1.mono hb0.size)
  replace g0 := cell_below hb1 g0
  replace g1 := cell_below hb1 g1
  go_wp2_with fail
  refine (Fault_any n _ ss _ (hv.below hw1)).mono ?_; rintro e w2 ⟨rfl, hb2⟩
  have hw2 := hw1.trans (hb2.mono hw1.size)
  replace g0 := cell_below hb2 g0
  replace g1 := cell_below hb2 g1
  go_wp2_with fail
  refine (Pool_any n _ ss _ (hv.below hw2) (by omega) Htl.out).mono ?_; rintro e w3 ⟨v3, rfl, s3, hb3⟩
  have hw3 := hw2.trans (hb3.mono hw2.size)
  replace g0 := cell_below hb3 g0
  replace g1 := cell_below hb3 g1
  obtain ⟨A3, c3, rfl, hc3, hm3⟩ := s3.form
  go_wp2_with fail
  refine (Needed_fault n coins _ ss _ s3 hf).mono ?_; rintro e w4 ⟨rfl, hb4⟩
  have hw4 := hw3.trans (hb4.mono hw3.size)
  replace g0 := cell_below hb4 g0
  replace g1 := cell_below hb4 g1
  replace s3 := s3.below hb4
  go_wp2_with fail
  refine (Pool_any n _ ss _ (hv.below hw4) (by omega) Htl.out).mono ?_; rintro e w5 ⟨v5, rfl, s5, hb5⟩
  have hw5 := hw4.trans (hb5.mono hw4.size)
  replace g0 := cell_below hb5 g0
  replace g1 := cell_below hb5 g1
  obtain ⟨A5, c5, rfl, hc5, hm5⟩ := s5.form
  go_wp2_with fail
  refine (list_any _ ms _ (hu.below hw5) (by omega)).mono ?_; rintro e w6 ⟨A6, c6, rfl, o6, hb6⟩
  have hw6 := hw5.trans (hb6.mono hw5.size)
  replace g0 := cell_below hb6 g0
  replace g1 := cell_below hb6 g1
  replace s5 := s5.below hb6
  go_wp2_with fail
  refine (PN_fault n coins _ _ ss _ s5 hf).mono ?_; rintro e w7 ⟨rfl, hb7⟩
  have hw7 := hw6.trans (hb7.mono hw6.size)
  replace g0 := cell_below hb7 g0
  replace g1 := cell_below hb7 g1
  replace s5 := s5.below hb7
  go_wp2_with fail
  refine (fault_any n _ ss _ (hv.below hw7)).mono ?_; rintro e w8 ⟨rfl, hb8⟩
  have hw8 := hw7.trans (hb8.mono hw7.size)
  replace g0 := cell_below hb8 g0
  replace g1 := cell_below hb8 g1
  go_wp2_with fail
  refine (wakes_any _).mono ?_; rintro e w9 ⟨rfl, hb9⟩
  have hw9 := hw8.trans (hb9.mono hw8.size)
  replace g0 := cell_below hb9 g0
  replace g1 := cell_below hb9 g1
  go_wp2
  go_ret
  exact ⟨rfl, hw9⟩

set_option maxRecDepth 100000 in
set_option maxHeartbeats 3200000 in
theorem Needs_range (n coins : Int) (v u : Value) (ss : List Strat) (ms : List Int) (w : World) (hv : StrataAt w v ss) (hu : NumsAt .i64 w u ms) (ht : fewB n ss = true) (hl : ms.length ≤ 12) (hf : faultI n ss = 0) (hn : n ≤ 3) (hci : inB coins 1 10000000 = false) :
    Calls Try.prog 10 #[.agg #[.int .i64 n, v], .int .i64 coins, u] w (Gives w (.bool true)) := by
  have hb0 : Below w.heap.size w (w.alloc (.cells #[.int .i64 n, v] 24)) := (Below.refl _ _).alloc (Nat.le_refl _) _
  obtain ⟨A, c, rfl, hc, hm⟩ := hv.form
  obtain ⟨Au, cu, rfl, hcu, hmu⟩ := hu.form
  have ht0 : thinB ss = true := by
    simp only [fewB, Bool.and_eq_true] at ht
    exact ht.1
  obtain ⟨tl, tl9⟩ := thin_len ht0
  have Htl := Lib.hid (fun (j : Nat) (s : Strat) (h : ss[j]? = some s) => Nat.le_trans (tl9 j s h) (by decide : 9 ≤ 1000))
  have hlI : (ms.length : Int) ≤ 12 := by omega
  clear tl9 ht0
  go_enter Try.func10, Try.ntmps10
  have g0 : (w.alloc (.cells #[.int .i64 n, .slice A ss.length c] 24)).cell? ⟨w.heap.size, 0, none⟩ = some (.int .i64 n) := by simp [go_sem]
  have g1 : (w.alloc (.cells #[.int .i64 n, .slice A ss.length c] 24)).cell? ⟨w.heap.size, 1, none⟩ = some (.slice A ss.length c) := by simp [go_sem]
  go_wp2_with fail
  refine (Gives.to ht (Few_any n _ ss _ (hv.below hb0))).mono ?_; rintro e w1 ⟨rfl, hb1⟩
  have hw1 := hb0.trans (hb1.mono hb0.size)
  replace g0 := cell_below hb1 g0
  replace g1 := cell_below hb1 g1
  go_wp2_with fail
  refine (Fault_any n _ ss _ (hv.below hw1)).mono ?_; rintro e w2 ⟨rfl, hb2⟩
  have hw2 := hw1.trans (hb2.mono hw1.size)
  replace g0 := cell_below hb2 g0
  replace g1 := cell_below hb2 g1
  rw [hf]
  go_wp2_with fail
  refine (Pool_any n _ ss _ (hv.below hw2) (by omega) Htl.out).mono ?_; rintro e w3 ⟨v3, rfl, s3, hb3⟩
  have hw3 := hw2.trans (hb3.mono hw2.size)
  replace g0 := cell_below hb3 g0
  replace g1 := cell_below hb3 g1
  obtain ⟨A3, c3, rfl, hc3, hm3⟩ := s3.form
  go_wp2_with fail
  refine (Needed_range n coins _ ss _ s3 hf hci).mono ?_; rintro e w4 ⟨rfl, hb4⟩
  have hw4 := hw3.trans (hb4.mono hw3.size)
  replace g0 := cell_below hb4 g0
  replace g1 := cell_below hb4 g1
  replace s3 := s3.below hb4
  go_wp2_with fail
  refine (Pool_any n _ ss _ (hv.below hw4) (by omega) Htl.out).mono ?_; rintro e w5 ⟨v5, rfl, s5, hb5⟩
  have hw5 := hw4.trans (hb5.mono hw4.size)
  replace g0 := cell_below hb5 g0
  replace g1 := cell_below hb5 g1
  obtain ⟨A5, c5, rfl, hc5, hm5⟩ := s5.form
  go_wp2_with fail
  refine (list_any _ ms _ (hu.below hw5) (by omega)).mono ?_; rintro e w6 ⟨A6, c6, rfl, o6, hb6⟩
  have hw6 := hw5.trans (hb6.mono hw5.size)
  replace g0 := cell_below hb6 g0
  replace g1 := cell_below hb6 g1
  replace s5 := s5.below hb6
  go_wp2_with fail
  refine (PN_range n coins _ _ ss _ s5 hf hci).mono ?_; rintro e w7 ⟨rfl, hb7⟩
  have hw7 := hw6.trans (hb7.mono hw6.size)
  replace g0 := cell_below hb7 g0
  replace g1 := cell_below hb7 g1
  replace s5 := s5.below hb7
  go_wp2_with fail
  refine (fault_any n _ ss _ (hv.below hw7)).mono ?_; rintro e w8 ⟨rfl, hb8⟩
  have hw8 := hw7.trans (hb8.mono hw7.size)
  replace g0 := cell_below hb8 g0
  replace g1 := cell_below hb8 g1
  rw [hf]
  go_wp2_with fail
  refine (Same.gives (Same.to hci (In_same _ _ _ _))).mono ?_; rintro e w9 ⟨rfl, hb9⟩
  have hw9 := hw8.trans (hb9.mono hw8.size)
  replace g0 := cell_below hb9 g0
  replace g1 := cell_below hb9 g1
  go_wp2_with fail
  refine (wakes_any _).mono ?_; rintro e w10 ⟨rfl, hb10⟩
  have hw10 := hw9.trans (hb10.mono hw9.size)
  replace g0 := cell_below hb10 g0
  replace g1 := cell_below hb10 g1
  go_wp2
  go_ret
  exact ⟨rfl, hw10⟩

set_option maxRecDepth 100000 in
set_option maxHeartbeats 3200000 in
theorem Needs_ok (n coins : Int) (v u : Value) (ss : List Strat) (ms : List Int) (w : World) (hv : StrataAt w v ss) (hu : NumsAt .i64 w u ms) (ht : fewB n ss = true) (hl : ms.length ≤ 12) (hf : faultI n ss = 0) (hn : n ≤ 3) (hci : inB coins 1 10000000 = true) :
    Calls Try.prog 10 #[.agg #[.int .i64 n, v], .int .i64 coins, u] w (Gives w (.bool true)) := by
  have hb0 : Below w.heap.size w (w.alloc (.cells #[.int .i64 n, v] 24)) := (Below.refl _ _).alloc (Nat.le_refl _) _
  obtain ⟨A, c, rfl, hc, hm⟩ := hv.form
  obtain ⟨Au, cu, rfl, hcu, hmu⟩ := hu.form
  have ht0 : thinB ss = true := by
    simp only [fewB, Bool.and_eq_true] at ht
    exact ht.1
  obtain ⟨tl, tl9⟩ := thin_len ht0
  have Htl := Lib.hid (fun (j : Nat) (s : Strat) (h : ss[j]? = some s) => Nat.le_trans (tl9 j s h) (by decide : 9 ≤ 1000))
  have hlI : (ms.length : Int) ≤ 12 := by omega
  clear tl9 ht0
  have h4 : ∀ (j : Nat) (s : Strat), ss[j]? = some s → s.hi - sumL s.seen ≤ 4 := fun j s hs => by
    simp only [fewB, hf, Bool.and_eq_true, Bool.or_eq_true] at ht
    rcases ht.2 with h | h
    · simp at h
    · simpa using List.all_eq_true.1 h.1 s (List.mem_of_getElem? hs)
  have H4 := Lib.hid h4
  obtain ⟨hs8, hn1, hn5, hval⟩ := fault_zero hf
  have Hval := Lib.hid hval
  have hc0 : 0 ≤ coins := by have := inB_iff.1 hci; omega
  obtain ⟨i3, hi3, hx0, hx1, hx2⟩ := info_parts info3
  clear h4 hval
  go_enter Try.func10, Try.ntmps10
  have g0 : (w.alloc (.cells #[.int .i64 n, .slice A ss.length c] 24)).cell? ⟨w.heap.size, 0, none⟩ = some (.int .i64 n) := by simp [go_sem]
  have g1 : (w.alloc (.cells #[.int .i64 n, .slice A ss.length c] 24)).cell? ⟨w.heap.size, 1, none⟩ = some (.slice A ss.length c) := by simp [go_sem]
  go_wp2_with fail
  refine (Gives.to ht (Few_any n _ ss _ (hv.below hb0))).mono ?_; rintro e w1 ⟨rfl, hb1⟩
  have hw1 := hb0.trans (hb1.mono hb0.size)
  replace g0 := cell_below hb1 g0
  replace g1 := cell_below hb1 g1
  go_wp2_with fail
  refine (Fault_any n _ ss _ (hv.below hw1)).mono ?_; rintro e w2 ⟨rfl, hb2⟩
  have hw2 := hw1.trans (hb2.mono hw1.size)
  replace g0 := cell_below hb2 g0
  replace g1 := cell_below hb2 g1
  rw [hf]
  clear ht
  go_wp2_with fail
  refine (Pool_any n _ ss _ (hv.below hw2) (by omega) Htl.out).mono ?_; rintro e w3 ⟨v3, rfl, s3, hb3⟩
  have hw3 := hw2.trans (hb3.mono hw2.size)
  replace g0 := cell_below hb3 g0
  replace g1 := cell_below hb3 g1
  obtain ⟨A3, c3, rfl, hc3, hm3⟩ := s3.form
  go_wp2_with fail
  refine (Needed_ok n coins _ ss _ s3 hf hci).mono ?_; rintro e w4 ⟨A4, c4, rfl, o4, hb4⟩
  have hw4 := hw3.trans (hb4.mono hw3.size)
  replace g0 := cell_below hb4 g0
  replace g1 := cell_below hb4 g1
  replace s3 := s3.below hb4
  have nl := nums_of_own o4
  have hnl : (needL coins ss).length = ss.length := by simp [needL]
  have Hnl := Lib.hid hnl
  rw [hnl] at nl
  try rw [hnl]
  clear hnl o4
  go_wp2_with fail
  refine (Pool_any n _ ss _ (hv.below hw4) (by omega) Htl.out).mono ?_; rintro e w5 ⟨v5, rfl, s5, hb5⟩
  have hw5 := hw4.trans (hb5.mono hw4.size)
  replace g0 := cell_below hb5 g0
  replace g1 := cell_below hb5 g1
  replace nl := nl.below hb5
  obtain ⟨A5, c5, rfl, hc5, hm5⟩ := s5.form
  go_wp2_with fail
  refine (list_any _ ms _ (hu.below hw5) (by omega)).mono ?_; rintro e w6 ⟨A6, c6, rfl, o6, hb6⟩
  have hw6 := hw5.trans (hb6.mono hw5.size)
  replace g0 := cell_below hb6 g0
  replace g1 := cell_below hb6 g1
  replace nl := nl.below hb6
  replace s5 := s5.below hb6
  have nm := nums_of_own o6
  go_wp2_with fail
  refine (PN_any n coins _ _ ss ms _ s5 nm hf hci).mono ?_; rintro e w7 ⟨rfl, hb7⟩
  have hw7 := hw6.trans (hb7.mono hw6.size)
  replace g0 := cell_below hb7 g0
  replace g1 := cell_below hb7 g1
  replace nl := nl.below hb7
  replace s5 := s5.below hb7
  replace nm := nm.below hb7
  go_wp2_with fail
  refine (fault_any n _ ss _ (hv.below hw7)).mono ?_; rintro e w8 ⟨rfl, hb8⟩
  have hw8 := hw7.trans (hb8.mono hw7.size)
  replace g0 := cell_below hb8 g0
  replace g1 := cell_below hb8 g1
  replace nl := nl.below hb8
  rw [hf]
  go_wp2_with fail
  refine (Same.gives (Same.to hci (In_same _ _ _ _))).mono ?_; rintro e w9 ⟨rfl, hb9⟩
  have hw9 := hw8.trans (hb9.mono hw8.size)
  replace g0 := cell_below hb9 g0
  replace g1 := cell_below hb9 g1
  replace nl := nl.below hb9
  clear hf hci
  obtain ⟨isR, hisR⟩ : ∃ b, rightB ss coins ms ss.length = b := ⟨_, rfl⟩
  rw [hisR]
  have HisR := Lib.hid hisR
  clear hisR
  have hr0 : decide (ms.length = ss.length) = rightB ss coins ms 0 := by simp [rightB, provK]
  have hbeq : ((ms.length : Int) == (ss.length : Int)) = rightB ss coins ms 0 := by
    rw [← hr0, Bool.eq_iff_iff]
    simp
    omega
  have Hbeq := Lib.hid hbeq
  clear hr0 hbeq
  go_upto_region 13 with fail
  rw [Hbeq.out]
  go_wp2_with fail
  go_loopw [11, 12, 13] (fun x r i wr => ∃ (k : Nat) (A' : Option Addr) (c' : Nat), k ≤ ss.length ∧ i = .int .i64 k ∧ x = .slice A' k c' ∧ r = .bool (rightB ss coins ms k) ∧ Below w9.heap.size w9 wr ∧ wr.ownsRow w9.heap.size 3 1 (.slice A' k c') k ((needL coins (ss.take k)).map (.int .i64))) (fun x r i wr => ss.length - (intOf i).toNat)
  case atStart => exact ⟨0, none, 0, by omega, rfl, rfl, rfl, Below.refl _ _, World.ownsRow_nil _ _ _ _⟩
  case round =>
    obtain ⟨k, A', c', hk, rfl, rfl, rfl, hbr, hown⟩ := hrel
    obtain ⟨wo, rfl⟩ : ∃ wo : World, wo = wr := ⟨_, rfl⟩
    have hwo := hw9.trans (hbr.mono hw9.size)
    replace g0 := cell_below hbr g0
    replace g1 := cell_below hbr g1
    by_cases hlt : k < ss.length
    · have hltI : (k : Int) < (ss.length : Int) := by omega
      obtain ⟨b, o, s, y, rfl, hs, hy0, d0, d1, d2, d3, hby⟩ := hv.at_ hlt
      have e0 := cell_below hwo d0
      have e1 := cell_below hwo d1
      have e2 := cell_below hwo d2
      have e3 := cell_below hwo d3
      have q1 := Hval.out k s hs
      have hs4 := H4.out k s hs
      have hok := seen_ok hn5 q1
      have hsn := strat_nums q1
      have Hst : Hid (needL coins (ss.take (k + 1)) = needL coins (ss.take k) ++ [(needN s coins : Int)]) := by
        show needL coins (ss.take (k + 1)) = _
        rw [List.take_add_one, hs]
        simp [needL]
      have hstep : rightB ss coins ms (k + 1) = (rightB ss coins ms k && provE s coins (ms[k]?.getD 0)) := by
        simp [rightB, provK_succ, hs, Bool.and_assoc]
      have Hstep := Lib.hid hstep
      have Hq := Lib.hid q1
      have hnl := (need_least q1 hn1 hc0).2.2
      clear hs q1 hstep d0 d1 d2 d3
      obtain ⟨D, F, rfl, hD, hD'⟩ := hy0.form
      have hy := hy0.below hwo
      have hba : Below wo.heap.size wo (wo.alloc (.cells #[.int .i64 s.coins, .int .i64 s.lo, .int .i64 s.hi, .slice D s.seen.length F] 44)) := (Below.refl _ _).alloc (Nat.le_refl _) _
      have B0 := Box4.new wo (.int .i64 s.coins) (.int .i64 s.lo) (.int .i64 s.hi) (.slice D s.seen.length F) 44
      have hya := hy.below hba
      have hsz := hbr.size
      go_upto_region 17 with (first
        | (go_at_call 41; refine (refNeeded_any n s _ coins _ hya hn1 hn5 Hq.out hs4 hc0).mono ?_; rintro e w20 ⟨rfl, hb20⟩; have hbo20 := hba.trans (hb20.mono hba.size); have hown20 := own_below hown hbo20; have hs20 := hbo20.size)
        | (at_builtin; refine wpList_append_src _ rfl (.tmp 91) (.tmp 95) 35 rfl w9.heap.size 3 i3 _ 1 8 Try.underlying35 hi3 hx0 hx1 hx2 rfl (by omega) _ k _ rfl (hown20.alloc _) (some ⟨w20.heap.size, 0, none⟩) 1 1 [.int .i64 (needN s coins : Int)] rfl (src_new w20 [.int .i64 (needN s coins : Int)] 3 1 1 rfl) (by simp [Value.oneCell']) (by simp [maxLen]; omega) (by omega) (by simp; omega) ?_; intro v21 w21 hown21 hg21 hat21; obtain ⟨A21, c21, rfl⟩ := own_form hown21))
      have hg22 : (w20.alloc (.cells #[.int .i64 (needN s coins : Int)] 3)).grownBy w21 (Value.slice A' k c').ownBlock := hg21
      have hbw20 : Below w9.heap.size w9 w20 := hbr.trans (hbo20.mono hsz)
      have hb21 : Below w9.heap.size w9 w21 := below_grown (hbw20.alloc hbw20.size _) hg22 (by simp; omega) (hown20.alloc _) (Nat.le_refl _)
      have BS : Box4 w21 wo.heap.size (.int .i64 s.coins) (.int .i64 s.lo) (.int .i64 s.hi) (.slice D s.seen.length F) := by
        have B1 := (B0.below hb20).below ((Below.refl _ _).alloc (Nat.le_refl _) (.cells #[.int .i64 (needN s coins : Int)] 3))
        have hne : some wo.heap.size ≠ (Value.slice A' k c').ownBlock := fun e => by have := (hown.lt _ e.symm).2; omega
        exact ⟨hg22.cell B1.c0 hne, hg22.cell B1.c1 hne, hg22.cell B1.c2 hne, hg22.cell B1.c3 hne, (World.frozen?_of_block (hg22.block _ B1.lt hne)).trans B1.f0, (World.frozen?_of_block (hg22.block _ B1.lt hne)).trans B1.f1, (World.frozen?_of_block (hg22.block _ B1.lt hne)).trans B1.f2, (World.frozen?_of_block (hg22.block _ B1.lt hne)).trans B1.f3, Nat.lt_of_lt_of_le B1.lt hg22.size⟩
      have hw21 := hw9.trans (hb21.mono hw9.size)
      have own21 : w21.ownsRow w9.heap.size 3 1 (.slice A21 (k + 1) c21) (k + 1) ((needL coins (ss.take (k + 1))).map (.int .i64)) := by rw [Hst.out, List.map_append]; exact hown21
      have Hown21 := Lib.hid own21
      have hyS := hy0.below hw21
      have Hrb := Lib.hid hb21
      clear own21 hg21 hg22 hat21 hown21 hown20 hb20 hbo20 hbw20 B0 hy hya hba e0 e1 e2 e3
      cases hr : rightB ss coins ms k with
      | false =>
        have Hs1 : Hid (rightB ss coins ms (k + 1) = false) := by
          show rightB ss coins ms (k + 1) = false
          rw [Hstep.out, hr]
          rfl
        clear hr
        go_wp2_with fail
        refine wp_region_later (by kernel_rfl) (by kernel_rfl) ?_
        repeat (go_big_quiet_step (fail))
        refine wpQuiet_nil ?_
        intro w30 hx30
        have hb30 := Later.out hx30
        clear hx30
        go_wp2
        go_roundw
        case rel => exact ⟨k + 1, A21, c21, by omega, by go_num, rfl, by rw [Hs1.out], Hrb.out.trans (hb30.mono Hrb.out.size), own_below Hown21.out hb30⟩
        case measure => simp [intOf]; omega
      | true =>
        have hlen : ms.length = ss.length := by
          simp only [rightB, Bool.and_eq_true, decide_eq_true_eq] at hr
          exact hr.1
        obtain ⟨b2, o2, x, rfl, hx, dx, hbx⟩ := (hu.below hw21).at_ (k := k) (by omega)
        have hs1 : rightB ss coins ms (k + 1) = provE s coins x := by
          rw [Hstep.out, hr, hx]
          rfl
        have Hs1 := Lib.hid hs1
        have hltJ : (k : Int) < (ms.length : Int) := by omega
        clear hr hlen hx hs1
        have x0 := Later.cell BS.c0
        have x1 := Later.cell BS.c1
        have x2 := Later.cell BS.c2
        have x3 := Later.cell BS.c3
        have x4 := Later.cell dx
        clear BS dx
        cases hin : inB x 0 (s.hi - sumL s.seen) with
        | false =>
          go_wp2_with fail
          refine wp_region_later (by kernel_rfl) (by kernel_rfl) ?_
          repeat (go_big_quiet_step (first
            | (go_at_call 42; exact Later.call (Unseen_any s _ _ (hyS.below (Subtype.property _)) hok (by omega) (by omega)))
            | (go_at_call 40; exact Later.call (Gives.to hin (In_any _ _ _ _)))))
          refine wpQuiet_nil ?_
          intro w30 hx30
          have hb30 := Later.out hx30
          clear hx30 x0 x1 x2 x3 x4
          have Hin := Lib.hid hin
          clear hin
          go_wp2
          go_roundw
          case rel => exact ⟨k + 1, A21, c21, by omega, by go_num, rfl, by rw [Hs1.out]; simp [provE, Hin.out], Hrb.out.trans (hb30.mono Hrb.out.size), own_below Hown21.out hb30⟩
          case measure => simp [intOf]; omega
        | true =>
          have hxr := inB_iff.1 hin
          obtain ⟨xn, rfl⟩ : ∃ xn : Nat, x = xn := ⟨x.toNat, by omega⟩
          have hpe : provE s coins xn = narrowB s coins xn := by simp [provE, hin]
          rw [hpe] at Hs1
          clear hpe
          have hnar : ∀ W, NumsAt .i64 W (.slice D s.seen.length F) s.seen → Calls Try.prog 43 #[.agg #[.int .i64 s.coins, .int .i64 s.lo, .int .i64 s.hi, .slice D s.seen.length F], .int .i64 coins, .int .i64 (xn : Int)] W (Gives W (.bool (narrowB s coins xn))) := fun W h => by
            rw [← narrow_ref Hq.out hn1 hc0]
            exact Narrow_any n s _ coins xn W h hn1 hn5 Hq.out hs4 hxr.2
          obtain ⟨nb, hnb⟩ : ∃ nb, narrowB s coins xn = nb := ⟨_, rfl⟩
          rw [hnb] at Hs1 hnar
          clear hnb
          have Hnar := Lib.hid hnar
          clear hnar
          cases nb with
          | false =>
            go_wp2_with fail
            refine wp_region_later (by kernel_rfl) (by kernel_rfl) ?_
            repeat (go_big_quiet_step (first
              | (go_at_call 42; exact Later.call (Unseen_any s _ _ (hyS.below (Subtype.property _)) hok (by omega) (by omega)))
              | (go_at_call 40; exact Later.call (Gives.to hin (In_any _ _ _ _)))
              | (go_at_call 43; exact Later.call (Hnar.out _ (hyS.below (Subtype.property _))))))
            refine wpQuiet_nil ?_
            intro w30 hx30
            have hb30 := Later.out hx30
            clear hx30 x0 x1 x2 x3 x4 hin
            go_wp2
            go_roundw
            case rel => exact ⟨k + 1, A21, c21, by omega, by go_num, rfl, by rw [Hs1.out], Hrb.out.trans (hb30.mono Hrb.out.size), own_below Hown21.out hb30⟩
            case measure => simp [intOf]; omega
          | true =>
            go_wp2_with fail
            refine wp_region_later (by kernel_rfl) (by kernel_rfl) ?_
            repeat (go_big_quiet_step (first
              | (go_at_call 42; exact Later.call (Unseen_any s _ _ (hyS.below (Subtype.property _)) hok (by omega) (by omega)))
              | (go_at_call 40; exact Later.call (Gives.to hin (In_any _ _ _ _)))
              | (go_at_call 43; exact Later.call (Hnar.out _ (hyS.below (Subtype.property _))))))
            refine wpQuiet_nil ?_
            intro w30 hx30
            have hb30 := Later.out hx30
            clear hx30 x0 x1 x2 x3 x4 hin
            go_wp2
            go_roundw
            case rel => exact ⟨k + 1, A21, c21, by omega, by go_num, rfl, by rw [Hs1.out], Hrb.out.trans (hb30.mono Hrb.out.size), own_below Hown21.out hb30⟩
            case measure => simp [intOf]; omega
    · obtain rfl : k = ss.length := by omega
      rw [HisR.out]
      have n1 := nl.below hbr
      have n2 : NumsAt .i64 wo (.slice A' ss.length c') (needL coins ss) := by
        rw [List.take_length] at hown
        have h := hown
        rw [← Hnl.out] at h
        rw [← Hnl.out]
        exact nums_of_own h
      clear hown
      cases isR with
      | false =>
        go_wp2_with (first
          | (go_at_call 33; refine (Gives.to (decide_self _) (ints_any _ _ (needL coins ss) (needL coins ss) _ n1 n2)).mono ?_; rintro e w40 ⟨rfl, hb40⟩)
          | (go_at_call 18; refine (wakes_any _).mono ?_; rintro e w41 ⟨rfl, hb41⟩))
        go_ret
        have hx0' := hwo.trans (hb40.mono hwo.size)
        exact ⟨rfl, hx0'.trans (hb41.mono hx0'.size)⟩
      | true =>
        go_wp2_with (first
          | (go_at_call 33; refine (Gives.to (decide_self _) (ints_any _ _ (needL coins ss) (needL coins ss) _ n1 n2)).mono ?_; rintro e w40 ⟨rfl, hb40⟩)
          | (go_at_call 18; refine (wakes_any _).mono ?_; rintro e w41 ⟨rfl, hb41⟩))
        go_ret
        have hx0' := hwo.trans (hb40.mono hwo.size)
        exact ⟨rfl, hx0'.trans (hb41.mono hx0'.size)⟩

theorem Needs_law (n coins : Int) (v u : Value) (ss : List Strat) (ms : List Int) (w : World) (hv : StrataAt w v ss) (hu : NumsAt .i64 w u ms) :
    Calls Try.prog 10 #[.agg #[.int .i64 n, v], .int .i64 coins, u] w (Gives w (.bool true)) := by
  cases ht : fewB n ss with
  | false => exact Needs_not n coins v u ss ms w hv hu ht
  | true =>
    by_cases hl : ms.length ≤ 12
    · by_cases hf : faultI n ss = 0
      · by_cases hn : n ≤ 3
        · cases hci : inB coins 1 10000000 with
          | false => exact Needs_range n coins v u ss ms w hv hu ht hl hf hn hci
          | true => exact Needs_ok n coins v u ss ms w hv hu ht hl hf hn hci
        · exact Needs_many n coins v u ss ms w hv hu ht hl hf (by omega)
      · exact Needs_fault n coins v u ss ms w hv hu ht hl (by simpa using hf)
    · exact Needs_long n coins v u ss ms w hv hu ht (by omega)
end Go.Proofs.Ytobeffjdfhkjeaa
