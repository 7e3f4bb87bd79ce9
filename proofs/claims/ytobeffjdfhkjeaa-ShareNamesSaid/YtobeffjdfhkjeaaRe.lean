import Derived.Test.YtobeffjdfhkjeaaGa
import Derived.Test.YtobeffjdfhkjeaaPp
set_option linter.unusedVariables false
set_option linter.unusedSimpArgs false
namespace Go.Proofs.Ytobeffjdfhkjeaa
open Go Go.Proofs Go.RowKit

theorem decide_self (a : List Int) : decide (a = a) = true := decide_eq_true rfl

theorem Refuses_thin (n : Int) (v u : Value) (ss : List Strat) (ll : List (List Int)) (w : World) (hv : StrataAt w v ss) (hu : RowsAt w u ll) (ht : thinB ss = false) :
    Calls Try.prog 8 #[.agg #[.int .i64 n, v], u] w (Gives w (.bool true)) := by
  have hb0 : Below w.heap.size w (w.alloc (.cells #[.int .i64 n, v] 24)) := (Below.refl _ _).alloc (Nat.le_refl _) _
  obtain ⟨A, c, rfl, hc, hm⟩ := hv.form
  go_enter Try.func8, Try.ntmps8
  have g0 : (w.alloc (.cells #[.int .i64 n, .slice A ss.length c] 24)).cell? ⟨w.heap.size, 0, none⟩ = some (.int .i64 n) := by simp [go_sem]
  have g1 : (w.alloc (.cells #[.int .i64 n, .slice A ss.length c] 24)).cell? ⟨w.heap.size, 1, none⟩ = some (.slice A ss.length c) := by simp [go_sem]
  go_wp2_with fail
  refine (Gives.to ht (thin_any n _ ss _ (hv.below hb0))).mono ?_; rintro e w1 ⟨rfl, hb1⟩
  have hw1 := hb0.trans (hb1.mono hb0.size)
  replace g0 := cell_below hb1 g0
  replace g1 := cell_below hb1 g1
  go_wp2_with fail
  refine (wakes_any _).mono ?_; rintro e w2 ⟨rfl, hb2⟩
  have hw2 := hw1.trans (hb2.mono hw1.size)
  replace g0 := cell_below hb2 g0
  replace g1 := cell_below hb2 g1
  go_wp2
  go_ret
  exact ⟨rfl, hw2⟩

theorem Refuses_short (n : Int) (v u : Value) (ss : List Strat) (ll : List (List Int)) (w : World) (hv : StrataAt w v ss) (hu : RowsAt w u ll) (ht : thinB ss = true) (hs : shortB ll = false) :
    Calls Try.prog 8 #[.agg #[.int .i64 n, v], u] w (Gives w (.bool true)) := by
  have hb0 : Below w.heap.size w (w.alloc (.cells #[.int .i64 n, v] 24)) := (Below.refl _ _).alloc (Nat.le_refl _) _
  obtain ⟨A, c, rfl, hc, hm⟩ := hv.form
  go_enter Try.func8, Try.ntmps8
  have g0 : (w.alloc (.cells #[.int .i64 n, .slice A ss.length c] 24)).cell? ⟨w.heap.size, 0, none⟩ = some (.int .i64 n) := by simp [go_sem]
  have g1 : (w.alloc (.cells #[.int .i64 n, .slice A ss.length c] 24)).cell? ⟨w.heap.size, 1, none⟩ = some (.slice A ss.length c) := by simp [go_sem]
  go_wp2_with fail
  refine (Gives.to ht (thin_any n _ ss _ (hv.below hb0))).mono ?_; rintro e w1 ⟨rfl, hb1⟩
  have hw1 := hb0.trans (hb1.mono hb0.size)
  replace g0 := cell_below hb1 g0
  replace g1 := cell_below hb1 g1
  go_wp2_with fail
  refine (Gives.to hs (short_any _ ll _ (hu.below hw1))).mono ?_; rintro e w2 ⟨rfl, hb2⟩
  have hw2 := hw1.trans (hb2.mono hw1.size)
  replace g0 := cell_below hb2 g0
  replace g1 := cell_below hb2 g1
  go_wp2_with fail
  refine (wakes_any _).mono ?_; rintro e w3 ⟨rfl, hb3⟩
  have hw3 := hw2.trans (hb3.mono hw2.size)
  replace g0 := cell_below hb3 g0
  replace g1 := cell_below hb3 g1
  go_wp2
  go_ret
  exact ⟨rfl, hw3⟩

set_option maxRecDepth 100000 in
set_option maxHeartbeats 3200000 in
theorem Refuses_fault (n : Int) (v u : Value) (ss : List Strat) (ll : List (List Int)) (w : World) (hv : StrataAt w v ss) (hu : RowsAt w u ll) (ht : thinB ss = true) (hs : shortB ll = true) (hf : (faultI n ss != 0) = true) :
    Calls Try.prog 8 #[.agg #[.int .i64 n, v], u] w (Gives w (.bool true)) := by
  have hb0 : Below w.heap.size w (w.alloc (.cells #[.int .i64 n, v] 24)) := (Below.refl _ _).alloc (Nat.le_refl _) _
  obtain ⟨A, c, rfl, hc, hm⟩ := hv.form
  obtain ⟨tl, tl9⟩ := thin_len ht
  have Htl := Lib.hid (fun (j : Nat) (s : Strat) (h : ss[j]? = some s) => Nat.le_trans (tl9 j s h) (by decide : 9 ≤ 1000))
  clear tl9
  obtain ⟨sl, sl9⟩ := short_len hs
  have Hsl := Lib.hid (fun (j : Nat) (l : List Int) (h : ll[j]? = some l) => Nat.le_trans (sl9 j l h) (by decide : 9 ≤ 1000))
  clear sl9
  have hf' : (faultI n ss == 0) = false := by simpa using hf
  go_enter Try.func8, Try.ntmps8
  have g0 : (w.alloc (.cells #[.int .i64 n, .slice A ss.length c] 24)).cell? ⟨w.heap.size, 0, none⟩ = some (.int .i64 n) := by simp [go_sem]
  have g1 : (w.alloc (.cells #[.int .i64 n, .slice A ss.length c] 24)).cell? ⟨w.heap.size, 1, none⟩ = some (.slice A ss.length c) := by simp [go_sem]
  go_wp2_with fail
  refine (Gives.to ht (thin_any n _ ss _ (hv.below hb0))).mono ?_; rintro e w1 ⟨rfl, hb1⟩
  have hw1 := hb0.trans (hb1.mono hb0.size)
  replace g0 := cell_below hb1 g0
  replace g1 := cell_below hb1 g1
  go_wp2_with fail
  refine (Gives.to hs (short_any _ ll _ (hu.below hw1))).mono ?_; rintro e w2 ⟨rfl, hb2⟩
  have hw2 := hw1.trans (hb2.mono hw1.size)
  replace g0 := cell_below hb2 g0
  replace g1 := cell_below hb2 g1
  go_wp2_with fail
  refine (Pool_any n _ ss _ (hv.below hw2) (by omega) Htl.out).mono ?_; rintro e w3 ⟨v3, rfl, s3, hb3⟩
  have hw3 := hw2.trans (hb3.mono hw2.size)
  replace g0 := cell_below hb3 g0
  replace g1 := cell_below hb3 g1
  obtain ⟨A3, c3, rfl, hc3, hm3⟩ := s3.form
  go_wp2_with fail
  refine (rows_any _ ll _ (hu.below hw3) (by omega) Hsl.out).mono ?_; rintro e w4 ⟨A4, c4, us4, rfl, o4, q4, hb4⟩
  have hw4 := hw3.trans (hb4.mono hw3.size)
  replace g0 := cell_below hb4 g0
  replace g1 := cell_below hb4 g1
  replace s3 := s3.below hb4
  have r4 := rows_of_own o4 q4
  go_wp2_with fail
  refine (Refused_fault n _ _ ss _ s3 hf).mono ?_; rintro e w5 ⟨rfl, hb5⟩
  have hw5 := hw4.trans (hb5.mono hw4.size)
  replace g0 := cell_below hb5 g0
  replace g1 := cell_below hb5 g1
  replace s3 := s3.below hb5
  replace r4 := r4.below hb5
  go_wp2_with fail
  refine (fault_any n _ ss _ (hv.below hw5)).mono ?_; rintro e w6 ⟨rfl, hb6⟩
  have hw6 := hw5.trans (hb6.mono hw5.size)
  replace g0 := cell_below hb6 g0
  replace g1 := cell_below hb6 g1
  go_wp2_with fail
  refine (wakes_any _).mono ?_; rintro e w7 ⟨rfl, hb7⟩
  have hw7 := hw6.trans (hb7.mono hw6.size)
  replace g0 := cell_below hb7 g0
  replace g1 := cell_below hb7 g1
  go_wp2
  go_ret
  exact ⟨rfl, hw7⟩

set_option maxRecDepth 100000 in
set_option maxHeartbeats 3200000 in
theorem Refuses_range (n : Int) (v u : Value) (ss : List Strat) (ll : List (List Int)) (w : World) (hv : StrataAt w v ss) (hu : RowsAt w u ll) (ht : thinB ss = true) (hs : shortB ll = true) (hf : faultI n ss = 0) (hl : listsB n ss.length ll = false) :
    Calls Try.prog 8 #[.agg #[.int .i64 n, v], u] w (Gives w (.bool true)) := by
  have hb0 : Below w.heap.size w (w.alloc (.cells #[.int .i64 n, v] 24)) := (Below.refl _ _).alloc (Nat.le_refl _) _
  obtain ⟨A, c, rfl, hc, hm⟩ := hv.form
  obtain ⟨tl, tl9⟩ := thin_len ht
  have Htl := Lib.hid (fun (j : Nat) (s : Strat) (h : ss[j]? = some s) => Nat.le_trans (tl9 j s h) (by decide : 9 ≤ 1000))
  clear tl9
  obtain ⟨sl, sl9⟩ := short_len hs
  have Hsl := Lib.hid (fun (j : Nat) (l : List Int) (h : ll[j]? = some l) => Nat.le_trans (sl9 j l h) (by decide : 9 ≤ 1000))
  clear sl9
  go_enter Try.func8, Try.ntmps8
  have g0 : (w.alloc (.cells #[.int .i64 n, .slice A ss.length c] 24)).cell? ⟨w.heap.size, 0, none⟩ = some (.int .i64 n) := by simp [go_sem]
  have g1 : (w.alloc (.cells #[.int .i64 n, .slice A ss.length c] 24)).cell? ⟨w.heap.size, 1, none⟩ = some (.slice A ss.length c) := by simp [go_sem]
  go_wp2_with fail
  refine (Gives.to ht (thin_any n _ ss _ (hv.below hb0))).mono ?_; rintro e w1 ⟨rfl, hb1⟩
  have hw1 := hb0.trans (hb1.mono hb0.size)
  replace g0 := cell_below hb1 g0
  replace g1 := cell_below hb1 g1
  go_wp2_with fail
  refine (Gives.to hs (short_any _ ll _ (hu.below hw1))).mono ?_; rintro e w2 ⟨rfl, hb2⟩
  have hw2 := hw1.trans (hb2.mono hw1.size)
  replace g0 := cell_below hb2 g0
  replace g1 := cell_below hb2 g1
  go_wp2_with fail
  refine (Pool_any n _ ss _ (hv.below hw2) (by omega) Htl.out).mono ?_; rintro e w3 ⟨v3, rfl, s3, hb3⟩
  have hw3 := hw2.trans (hb3.mono hw2.size)
  replace g0 := cell_below hb3 g0
  replace g1 := cell_below hb3 g1
  obtain ⟨A3, c3, rfl, hc3, hm3⟩ := s3.form
  go_wp2_with fail
  refine (rows_any _ ll _ (hu.below hw3) (by omega) Hsl.out).mono ?_; rintro e w4 ⟨A4, c4, us4, rfl, o4, q4, hb4⟩
  have hw4 := hw3.trans (hb4.mono hw3.size)
  replace g0 := cell_below hb4 g0
  replace g1 := cell_below hb4 g1
  replace s3 := s3.below hb4
  have r4 := rows_of_own o4 q4
  go_wp2_with fail
  refine (Refused_range n _ _ ss ll _ s3 r4 hf hl).mono ?_; rintro e w5 ⟨rfl, hb5⟩
  have hw5 := hw4.trans (hb5.mono hw4.size)
  replace g0 := cell_below hb5 g0
  replace g1 := cell_below hb5 g1
  replace s3 := s3.below hb5
  replace r4 := r4.below hb5
  go_wp2_with fail
  refine (fault_any n _ ss _ (hv.below hw5)).mono ?_; rintro e w6 ⟨rfl, hb6⟩
  have hw6 := hw5.trans (hb6.mono hw5.size)
  replace g0 := cell_below hb6 g0
  replace g1 := cell_below hb6 g1
  rw [hf]
  go_wp2_with fail
  refine (Gives.to hl (Lists_any n _ _ ss ll _ (hv.below hw6) (hu.below hw6))).mono ?_; rintro e w7 ⟨rfl, hb7⟩
  have hw7 := hw6.trans (hb7.mono hw6.size)
  replace g0 := cell_below hb7 g0
  replace g1 := cell_below hb7 g1
  go_wp2_with fail
  refine (wakes_any _).mono ?_; rintro e w8 ⟨rfl, hb8⟩
  have hw8 := hw7.trans (hb8.mono hw7.size)
  replace g0 := cell_below hb8 g0
  replace g1 := cell_below hb8 g1
  go_wp2
  go_ret
  exact ⟨rfl, hw8⟩

set_option maxRecDepth 100000 in
set_option maxHeartbeats 3200000 in
theorem Refuses_ok (n : Int) (v u : Value) (ss : List Strat) (ll : List (List Int)) (w : World) (hv : StrataAt w v ss) (hu : RowsAt w u ll) (ht : thinB ss = true) (hs : shortB ll = true) (hf : faultI n ss = 0) (hl : listsB n ss.length ll = true) :
    Calls Try.prog 8 #[.agg #[.int .i64 n, v], u] w (Gives w (.bool true)) := by
  have hb0 : Below w.heap.size w (w.alloc (.cells #[.int .i64 n, v] 24)) := (Below.refl _ _).alloc (Nat.le_refl _) _
  obtain ⟨A, c, rfl, hc, hm⟩ := hv.form
  obtain ⟨tl, tl9⟩ := thin_len ht
  have Htl := Lib.hid (fun (j : Nat) (s : Strat) (h : ss[j]? = some s) => Nat.le_trans (tl9 j s h) (by decide : 9 ≤ 1000))
  clear tl9
  obtain ⟨sl, sl9⟩ := short_len hs
  have Hsl := Lib.hid (fun (j : Nat) (l : List Int) (h : ll[j]? = some l) => Nat.le_trans (sl9 j l h) (by decide : 9 ≤ 1000))
  clear sl9
  have hF := fit_of hf hl
  have hs8 := hF.s8
  have hlen := Nat.le_of_eq hF.len
  have hlen' := Nat.le_of_eq hF.len.symm
  have HF := Lib.hid hF
  obtain ⟨i0, hi0, hz0, hz1, hz2⟩ := info_parts info3
  obtain ⟨Au, cu, rfl, hcu, hmu⟩ := hu.form
  clear hF
  go_enter Try.func8, Try.ntmps8
  have g0 : (w.alloc (.cells #[.int .i64 n, .slice A ss.length c] 24)).cell? ⟨w.heap.size, 0, none⟩ = some (.int .i64 n) := by simp [go_sem]
  have g1 : (w.alloc (.cells #[.int .i64 n, .slice A ss.length c] 24)).cell? ⟨w.heap.size, 1, none⟩ = some (.slice A ss.length c) := by simp [go_sem]
  go_wp2_with fail
  refine (Gives.to ht (thin_any n _ ss _ (hv.below hb0))).mono ?_; rintro e w1 ⟨rfl, hb1⟩
  have hw1 := hb0.trans (hb1.mono hb0.size)
  replace g0 := cell_below hb1 g0
  replace g1 := cell_below hb1 g1
  go_wp2_with fail
  refine (Gives.to hs (short_any _ ll _ (hu.below hw1))).mono ?_; rintro e w2 ⟨rfl, hb2⟩
  have hw2 := hw1.trans (hb2.mono hw1.size)
  replace g0 := cell_below hb2 g0
  replace g1 := cell_below hb2 g1
  go_wp2_with fail
  refine (Pool_any n _ ss _ (hv.below hw2) (by omega) Htl.out).mono ?_; rintro e w3 ⟨v3, rfl, s3, hb3⟩
  have hw3 := hw2.trans (hb3.mono hw2.size)
  replace g0 := cell_below hb3 g0
  replace g1 := cell_below hb3 g1
  obtain ⟨A3, c3, rfl, hc3, hm3⟩ := s3.form
  go_wp2_with fail
  refine (rows_any _ ll _ (hu.below hw3) (by omega) Hsl.out).mono ?_; rintro e w4 ⟨A4, c4, us4, rfl, o4, q4, hb4⟩
  have hw4 := hw3.trans (hb4.mono hw3.size)
  replace g0 := cell_below hb4 g0
  replace g1 := cell_below hb4 g1
  replace s3 := s3.below hb4
  have r4 := rows_of_own o4 q4
  go_wp2_with fail
  refine (Refused_ok n _ _ ss ll _ s3 r4 hf hl).mono ?_; rintro e w5 ⟨A5, c5, rfl, o5, hb5⟩
  have hw5 := hw4.trans (hb5.mono hw4.size)
  replace g0 := cell_below hb5 g0
  replace g1 := cell_below hb5 g1
  replace s3 := s3.below hb5
  replace r4 := r4.below hb5
  have n5 := nums_of_own o5
  go_wp2_with fail
  refine (fault_any n _ ss _ (hv.below hw5)).mono ?_; rintro e w6 ⟨rfl, hb6⟩
  have hw6 := hw5.trans (hb6.mono hw5.size)
  replace g0 := cell_below hb6 g0
  replace g1 := cell_below hb6 g1
  replace n5 := n5.below hb6
  rw [hf]
  go_wp2_with fail
  refine (Gives.to hl (Lists_any n _ _ ss ll _ (hv.below hw6) (hu.below hw6))).mono ?_; rintro e w7 ⟨rfl, hb7⟩
  have hw7 := hw6.trans (hb7.mono hw6.size)
  replace g0 := cell_below hb7 g0
  replace g1 := cell_below hb7 g1
  replace n5 := n5.below hb7
  have hG : w.heap.size < w7.heap.size := by have := World.block_lt_of_cell? w7 _ g0; simpa using this
  clear hf hl ht hs
  go_wp2_with fail
  go_loopw [8, 9] (fun x i wr => ∃ (k : Nat) (A' : Option Addr) (c' : Nat), k ≤ ss.length ∧ i = .int .i64 k ∧ x = .slice A' (refusedL ss ll k).length c' ∧ Below w7.heap.size w7 wr ∧
      wr.ownsRow w7.heap.size 3 1 (.slice A' (refusedL ss ll k).length c') (refusedL ss ll k).length ((refusedL ss ll k).map (.int .i64))) (fun x i wr => ss.length - (intOf i).toNat)
  case atStart => exact ⟨0, none, 0, by omega, rfl, rfl, Below.refl _ _, World.ownsRow_nil _ _ _ _⟩
  case round =>
    obtain ⟨k, A', c', hk, rfl, rfl, hbr, hown⟩ := hrel
    obtain ⟨wo, rfl⟩ : ∃ wo : World, wo = wr := ⟨_, rfl⟩
    have hbx := hw7.trans (hbr.mono hw7.size)
    have hrl := refusedL_len ss ll k
    replace g0 := cell_below hbr g0
    replace g1 := cell_below hbr g1
    by_cases hlt : k < ss.length
    · obtain ⟨b, o, s, y, rfl, hs, hy, e0, e1, e2, e3, hby⟩ := (hv.below hbx).at_ hlt
      obtain ⟨b2, o2, l, x, rfl, hl, dl, hx, hbx2⟩ := (hu.below hbx).at_ (k := k) (by omega)
      have q1 := HF.out.row k l hl
      have hok := rowB_ok HF.out.n5 q1
      have hlm := (rowB_iff.1 q1).1
      have hsn := (stratB_iff.1 (HF.out.val k s hs)).2.2.2.2.1
      have hll : l.length ≤ s.seen.length := by omega
      have Hst : Hid (refusedL ss ll (k + 1) = refusedL ss ll k ++ if partB s l then [] else [(k : Int)]) := by
        show refusedL ss ll (k + 1) = _
        rw [refusedL, hs, hl, Option.getD_some, Option.getD_some]
      clear hs hl q1 hlm hsn
      obtain ⟨C, E, rfl, hC, hC'⟩ := hy.form
      obtain ⟨D, F, rfl, hD, hD'⟩ := hx.form
      have i1 : (k : Int) < (ll.length : Int) := by omega
      have f0 := Later.cell e0
      have f1 := Later.cell e1
      have f2 := Later.cell e2
      have f3 := Later.cell e3
      have f4 := Later.cell dl
      have f5 := Later.cell g1
      go_wp2_with fail
      refine wp_region_later (by kernel_rfl) (by kernel_rfl) ?_
      repeat (go_big_quiet_step ((go_at_call 36; exact Later.call (Part_any s _ _ l _ (hy.below (Subtype.property _)) (hx.below (Subtype.property _)) hll hok))))
      refine wpQuiet_nil ?_
      intro w20 hx2
      have hb20 := Later.out hx2
      clear hx2 f0 f1 f2 f3 f4 f5
      have hown2 := own_below hown hb20
      cases hp : partB s l with
      | true =>
        rw [hp] at Hst
        clear hp
        go_wp2
        go_roundw
        case rel =>
          have e : refusedL ss ll (k + 1) = refusedL ss ll k := by rw [Hst.out]; simp
          exact ⟨k + 1, A', c', by omega, by go_num, by rw [e], hbr.trans (hb20.mono hbr.size), by rw [e]; exact hown2⟩
        case measure => simp [intOf]; omega
      | false =>
        rw [hp] at Hst
        clear hp
        have hsz1 := hbr.size
        have hsz2 := hb20.size
        go_wp2_with (at_builtin; refine wpList_append_src _ rfl (.tmp 68) (.tmp 70) 35 rfl w7.heap.size 3 i0 _ 1 8 Try.underlying35 hi0 hz0 hz1 hz2 rfl (by omega) _ (refusedL ss ll k).length _ rfl (hown2.alloc _) (some ⟨w20.heap.size, 0, none⟩) 1 1 [.int .i64 (k : Int)] rfl (src_new w20 [.int .i64 (k : Int)] 3 1 1 rfl) (by simp [Value.oneCell']) (by simp [maxLen]; omega) (by omega) (by simp; omega) ?_; intro v5 w5' hown5 hg5 hat5; obtain ⟨A5, c5, rfl⟩ := own_form hown5)
        have hba : Below w7.heap.size w7 (w20.alloc (.cells #[.int .i64 (k : Int)] 3)) := (hbr.trans (hb20.mono hbr.size)).alloc (by omega) _
        have hb5 := below_grown hba hg5 (by simp; omega) (hown2.alloc _) (Nat.le_refl _)
        go_roundw
        case rel =>
          have e : refusedL ss ll (k + 1) = refusedL ss ll k ++ [(k : Int)] := by rw [Hst.out]; simp
          have e2 : (refusedL ss ll (k + 1)).length = (refusedL ss ll k).length + 1 := by rw [e]; simp
          refine ⟨k + 1, A5, c5, by omega, by go_num, by rw [e2], hb5, ?_⟩
          rw [e2, e, List.map_append]
          exact hown5
        case measure => simp [intOf]; omega
    · obtain rfl : k = ss.length := by omega
      have n7 := n5.below hbr
      have nx := nums_of_own hown
      go_wp2_with (first
        | (go_at_call 33; refine (Gives.to (decide_self _) (ints_any _ _ (refusedL ss ll ss.length) (refusedL ss ll ss.length) _ n7 nx)).mono ?_; rintro e w30 ⟨rfl, hb30⟩)
        | (go_at_call 18; refine (wakes_any _).mono ?_; rintro e w31 ⟨rfl, hb31⟩))
      go_ret
      have hx0 := hbx.trans (hb30.mono hbx.size)
      exact ⟨rfl, hx0.trans (hb31.mono hx0.size)⟩

theorem Refuses_law (n : Int) (v u : Value) (ss : List Strat) (ll : List (List Int)) (w : World) (hv : StrataAt w v ss) (hu : RowsAt w u ll) :
    Calls Try.prog 8 #[.agg #[.int .i64 n, v], u] w (Gives w (.bool true)) := by
  cases ht : thinB ss with
  | false => exact Refuses_thin n v u ss ll w hv hu ht
  | true =>
    cases hs : shortB ll with
    | false => exact Refuses_short n v u ss ll w hv hu ht hs
    | true =>
      by_cases hf : faultI n ss = 0
      · cases hl : listsB n ss.length ll with
        | false => exact Refuses_range n v u ss ll w hv hu ht hs hf hl
        | true => exact Refuses_ok n v u ss ll w hv hu ht hs hf hl
      · exact Refuses_fault n v u ss ll w hv hu ht hs (by simpa using hf)
end Go.Proofs.Ytobeffjdfhkjeaa
