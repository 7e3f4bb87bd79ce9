import Derived.Test.YtobeffjdfhkjeaaNa
import Derived.Test.YtobeffjdfhkjeaaZ
set_option linter.unusedVariables false
set_option linter.unusedSimpArgs false
namespace Go.Proofs.Ytobeffjdfhkjeaa
open Go Go.Proofs Go.RowKit

/-! ### Samples that are enough -/
def provE (s : Strat) (coins x : Int) : Bool := inB x 0 (s.hi - sumL s.seen) && narrowB s coins x.toNat
def provK (ss : List Strat) (coins : Int) (ms : List Int) (k : Nat) : Bool := (List.range k).all fun i => provE (ss[i]?.getD Strat.none) coins (ms[i]?.getD 0)
theorem provK_succ (ss : List Strat) (coins : Int) (ms : List Int) (k : Nat) : provK ss coins ms (k + 1) = (provK ss coins ms k && provE (ss[k]?.getD Strat.none) coins (ms[k]?.getD 0)) := by
  simp [provK, List.range_succ, List.all_append]
theorem provK_stop {ss : List Strat} {coins : Int} {ms : List Int} {k j : Nat} (h : provK ss coins ms k = false) (hk : k ≤ j) : provK ss coins ms j = false := by
  obtain ⟨d, rfl⟩ : ∃ d, j = k + d := ⟨j - k, by omega⟩
  clear hk
  induction d with
  | zero => exact h
  | succ d ih => rw [show k + (d + 1) = (k + d) + 1 by omega, provK_succ, ih]; rfl

theorem PN_fault (n coins : Int) (v u : Value) (ss : List Strat) (w : World) (hv : StrataAt w v ss) (hf : (faultI n ss != 0) = true) :
    Calls Try.prog 39 #[.agg #[.int .i64 n, v], .int .i64 coins, u] w (Gives w (.bool false)) := by
  have hb0 : Below w.heap.size w (w.alloc (.cells #[.int .i64 n, v] 33)) := (Below.refl _ _).alloc (Nat.le_refl _) _
  obtain ⟨A, c, rfl, hc, hm⟩ := hv.form
  go_enter Try.func39, Try.ntmps39
  go_wp2_with (go_at_call 19; refine (checkPool_any _ _ ss _ (hv.below hb0)).mono ?_; rintro e w1 ⟨rfl, hb1⟩)
  go_ret
  exact ⟨rfl, hb0.trans (hb1.mono hb0.size)⟩

theorem PN_range (n coins : Int) (v u : Value) (ss : List Strat) (w : World) (hv : StrataAt w v ss) (hf : faultI n ss = 0) (hc0 : inB coins 1 10000000 = false) :
    Calls Try.prog 39 #[.agg #[.int .i64 n, v], .int .i64 coins, u] w (Gives w (.bool false)) := by
  have hb0 : Below w.heap.size w (w.alloc (.cells #[.int .i64 n, v] 33)) := (Below.refl _ _).alloc (Nat.le_refl _) _
  obtain ⟨A, c, rfl, hc, hm⟩ := hv.form
  have hf0 : (faultI n ss != 0) = false := by simp [hf]
  clear hf
  go_enter Try.func39, Try.ntmps39
  go_wp2_with (first
    | (go_at_call 19; refine (checkPool_any _ _ ss _ (hv.below hb0)).mono ?_; rintro e w1 ⟨rfl, hb1⟩)
    | (go_at_call 62; refine (Same.to hc0 (right_same _ _)).mono ?_; rintro e w' ⟨rfl, rfl⟩))
  go_ret
  exact ⟨rfl, hb0.trans (hb1.mono hb0.size)⟩

theorem PN_len (n coins : Int) (v u : Value) (ss : List Strat) (ms : List Int) (w : World) (hv : StrataAt w v ss) (hu : NumsAt .i64 w u ms) (hf : faultI n ss = 0) (hc0 : inB coins 1 10000000 = true) (hl : ms.length ≠ ss.length) :
    Calls Try.prog 39 #[.agg #[.int .i64 n, v], .int .i64 coins, u] w (Gives w (.bool false)) := by
  have hb0 : Below w.heap.size w (w.alloc (.cells #[.int .i64 n, v] 33)) := (Below.refl _ _).alloc (Nat.le_refl _) _
  obtain ⟨A, c, rfl, hc, hm⟩ := hv.form
  obtain ⟨A', c', rfl, hc', hm'⟩ := hu.form
  have hf0 : (faultI n ss != 0) = false := by simp [hf]
  have hl0 : ((ms.length : Int) != (ss.length : Int)) = true := by simp; omega
  clear hf hl
  go_enter Try.func39, Try.ntmps39
  go_wp2_with (first
    | (go_at_call 19; refine (checkPool_any _ _ ss _ (hv.below hb0)).mono ?_; rintro e w1 ⟨rfl, hb1⟩; have g1 : w1.cell? ⟨w.heap.size, 1, none⟩ = some (.slice A ss.length c) := cell_below hb1 (by simp [go_sem]))
    | (go_at_call 62; refine (Same.to hc0 (right_same _ _)).mono ?_; rintro e w' ⟨rfl, rfl⟩))
  go_ret
  exact ⟨rfl, hb0.trans (hb1.mono hb0.size)⟩

set_option maxRecDepth 100000 in
set_option maxHeartbeats 3200000 in
theorem PN_ok (n coins : Int) (v u : Value) (ss : List Strat) (ms : List Int) (w : World) (hv : StrataAt w v ss) (hu : NumsAt .i64 w u ms) (hf : faultI n ss = 0) (hc0 : inB coins 1 10000000 = true) (hl : ms.length = ss.length) :
    Calls Try.prog 39 #[.agg #[.int .i64 n, v], .int .i64 coins, u] w (Gives w (.bool (provK ss coins ms ss.length))) := by
  have hb0 : Below w.heap.size w (w.alloc (.cells #[.int .i64 n, v] 33)) := (Below.refl _ _).alloc (Nat.le_refl _) _
  obtain ⟨A, c, rfl, hc, hm⟩ := hv.form
  obtain ⟨A', c', rfl, hc', hm'⟩ := hu.form
  have hf0 : (faultI n ss != 0) = false := by simp [hf]
  have hl0 : ((ms.length : Int) != (ss.length : Int)) = false := by simp [hl]
  have hl1 := Nat.le_of_eq hl
  have hl2 := Nat.le_of_eq hl.symm
  obtain ⟨hs8, hn1, hn5, hval⟩ := fault_zero hf
  have Hval := Lib.hid hval
  clear hf hl hval
  go_enter Try.func39, Try.ntmps39
  go_wp2_with (first
    | (go_at_call 19; refine (checkPool_any _ _ ss _ (hv.below hb0)).mono ?_; rintro e w1 ⟨rfl, hb1⟩; have g1 : w1.cell? ⟨w.heap.size, 1, none⟩ = some (.slice A ss.length c) := cell_below hb1 (by simp [go_sem]); have hw1 := hb0.trans (hb1.mono hb0.size))
    | (go_at_call 62; refine (Same.to hc0 (right_same _ _)).mono ?_; rintro e w' ⟨rfl, rfl⟩))
  go_loopw [28] (fun x wr => ∃ k : Nat, k ≤ ss.length ∧ x = .int .i64 k ∧ Below w.heap.size w wr ∧ provK ss coins ms k = true) (fun x wr => ss.length - (intOf x).toNat)
  case atStart => exact ⟨0, by omega, rfl, hw1, rfl⟩
  case round =>
    obtain ⟨k, hk, rfl, hbr, hpk⟩ := hrel
    obtain ⟨wo, rfl⟩ : ∃ wo : World, wo = wr := ⟨_, rfl⟩
    have Hpk := Lib.hid hpk
    clear hpk
    by_cases hlt : k < ss.length
    · have hltI : (k : Int) < (ss.length : Int) := by omega
      have hltJ : (k : Int) < (ms.length : Int) := by omega
      obtain ⟨b, o, s, y, rfl, hs, hy, e0, e1, e2, e3, hby⟩ := (hv.below hbr).at_ hlt
      obtain ⟨b2, o2, x, rfl, hx, dx, hbx⟩ := (hu.below hbr).at_ (k := k) (by omega)
      have q1 := Hval.out k s hs
      have hok := seen_ok hn5 q1
      have hsn := strat_nums q1
      have hstep : provK ss coins ms (k + 1) = provE s coins x := by
        rw [provK_succ, Hpk.out, hs, hx, Option.getD_some, Option.getD_some, Bool.true_and]
      have Hstep := Lib.hid hstep
      have Hq := Lib.hid q1
      clear hs hx q1 hstep
      obtain ⟨D, F, rfl, hD, hD'⟩ := hy.form
      have hfd := field95
      have hba : Below wo.heap.size wo (wo.alloc (.cells #[.int .i64 s.coins, .int .i64 s.lo, .int .i64 s.hi, .slice D s.seen.length F] 86)) := (Below.refl _ _).alloc (Nat.le_refl _) _
      have B0 := Box4.new wo (.int .i64 s.coins) (.int .i64 s.lo) (.int .i64 s.hi) (.slice D s.seen.length F) 86
      have hya := hy.below hba
      have x0 := Later.cell B0.c0
      have x1 := Later.cell B0.c1
      have x2 := Later.cell B0.c2
      have x3 := Later.cell B0.c3
      have x4 := Later.cell (cell_below hba dx)
      clear B0
      cases hin : inB x 0 (s.hi - sumL s.seen) with
      | false =>
        go_wp2_with fail
        generalize wo.alloc (.cells #[.int .i64 s.coins, .int .i64 s.lo, .int .i64 s.hi, .slice D s.seen.length F] 86) = wa at *
        refine wp_region_later (by kernel_rfl) (by kernel_rfl) ?_
        repeat (go_big_quiet_step (first
          | (go_at_call 60; exact Later.call (look_any s _ _ (hya.below (Subtype.property _)) hok (by omega) (by omega)))
          | (go_at_call 53; exact Later.call (Gives.to hin (within_any _ _ _ _)))))
        refine wpQuiet_nil ?_
        intro w3 hx3
        have hb3 := Later.out hx3
        clear hx3 x0 x1 x2 x3 x4
        go_wp2
        go_ret
        have hwo := hbr.trans (hba.mono hbr.size)
        refine gives_bool ?_ (hwo.trans (hb3.mono hwo.size))
        symm
        refine provK_stop (k := k + 1) ?_ (by omega)
        rw [Hstep.out]
        simp [provE, hin]
      | true =>
        have hxr := inB_iff.1 hin
        obtain ⟨xn, rfl⟩ : ∃ xn : Nat, x = xn := ⟨x.toNat, by omega⟩
        have hpe : provE s coins xn = narrowB s coins xn := by simp [provE, hin]
        rw [hpe] at Hstep
        clear hpe
        cases hnb : narrowB s coins xn with
        | false =>
          go_wp2_with fail
          generalize wo.alloc (.cells #[.int .i64 s.coins, .int .i64 s.lo, .int .i64 s.hi, .slice D s.seen.length F] 86) = wa at *
          refine wp_region_later (by kernel_rfl) (by kernel_rfl) ?_
          repeat (go_big_quiet_step (first
            | (go_at_call 60; exact Later.call (look_any s _ _ (hya.below (Subtype.property _)) hok (by omega) (by omega)))
            | (go_at_call 53; exact Later.call (Gives.to hin (within_any _ _ _ _)))
            | (go_at_call 64; exact Later.call (Gives.to hnb (narrow_any n s _ coins xn _ (hya.below (Subtype.property _)) hn5 Hq.out hxr.2)))))
          refine wpQuiet_nil ?_
          intro w3 hx3
          have hb3 := Later.out hx3
          clear hx3 x0 x1 x2 x3 x4
          go_wp2
          go_ret
          have hwo := hbr.trans (hba.mono hbr.size)
          refine gives_bool ?_ (hwo.trans (hb3.mono hwo.size))
          symm
          exact provK_stop (k := k + 1) (by rw [Hstep.out, hnb]) (by omega)
        | true =>
          have Hnb := Lib.hid hnb
          go_wp2_with fail
          generalize wo.alloc (.cells #[.int .i64 s.coins, .int .i64 s.lo, .int .i64 s.hi, .slice D s.seen.length F] 86) = wa at *
          refine wp_region_later (by kernel_rfl) (by kernel_rfl) ?_
          repeat (go_big_quiet_step (first
            | (go_at_call 60; exact Later.call (look_any s _ _ (hya.below (Subtype.property _)) hok (by omega) (by omega)))
            | (go_at_call 53; exact Later.call (Gives.to hin (within_any _ _ _ _)))
            | (go_at_call 64; exact Later.call (Gives.to hnb (narrow_any n s _ coins xn _ (hya.below (Subtype.property _)) hn5 Hq.out hxr.2)))))
          refine wpQuiet_nil ?_
          intro w3 hx3
          have hb3 := Later.out hx3
          clear hx3 x0 x1 x2 x3 x4 hnb hin
          have hwo := hbr.trans (hba.mono hbr.size)
          go_wp2
          go_roundw
          case rel => exact ⟨k + 1, by omega, by go_num, hwo.trans (hb3.mono hwo.size), by rw [Hstep.out, Hnb.out]⟩
          case measure => simp [intOf]; omega
    · obtain rfl : k = ss.length := by omega
      go_wp2
      go_ret
      exact gives_bool Hpk.out.symm hbr
end Go.Proofs.Ytobeffjdfhkjeaa
