import Derived.Test.YtobeffjdfhkjeaaTa
import Derived.Test.YtobeffjdfhkjeaaPS
import Derived.Test.YtobeffjdfhkjeaaW6
import Derived.Deep.CutRange
import Derived.Deep.Cut
set_option linter.unusedVariables false
set_option linter.unusedSimpArgs false
namespace Go.Proofs.Ytobeffjdfhkjeaa
open Go Go.Proofs Go.RowKit

theorem info44 : (Try.prog.info? 44).map (fun i => (i.zero, i.size, i.bytes)) = some (some (.agg #[.int .i64 0, .int .i64 0, .int .i64 0, .slice none 0 0]), 4, 48) := by kernel_rfl
set_option maxRecDepth 100000 in
set_option maxHeartbeats 3200000 in
theorem Seen_not (n : Int) (v : Value) (a1 a2 : Int) (ss : List Strat) (w : World) (hv : StrataAt w v ss) (ht : readyB n ss = false) :
    Calls Try.prog 6 #[.agg #[.int .i64 n, v], .int .u8 a1, .int .u8 a2] w (Gives w (.bool true)) := by
  have hb0 : Below w.heap.size w (w.alloc (.cells #[.int .i64 n, v] 24)) := (Below.refl _ _).alloc (Nat.le_refl _) _
  obtain ⟨A, c, rfl, hc, hm⟩ := hv.form
  go_enter Try.func6, Try.ntmps6
  have g0 : (w.alloc (.cells #[.int .i64 n, .slice A ss.length c] 24)).cell? ⟨w.heap.size, 0, none⟩ = some (.int .i64 n) := by simp [go_sem]
  have g1 : (w.alloc (.cells #[.int .i64 n, .slice A ss.length c] 24)).cell? ⟨w.heap.size, 1, none⟩ = some (.slice A ss.length c) := by simp [go_sem]
  go_wp2_with fail
  refine (Gives.to ht (ready_any n _ ss _ (hv.below hb0))).mono ?_; rintro e w1 ⟨rfl, hb1⟩
  have hw1 := hb0.trans (hb1.mono hb0.size)
  replace g0 := cell_below hb1 g0
  replace g1 := cell_below hb1 g1
  go_wp2_with fail
  refine (wakes_any _).mono ?_; rintro e w2 ⟨rfl, hb2⟩
  have hw2 := hw1.trans (hb2.mono hw1.size)
  replace g0 := cell_below hb2 g0
  replace g1 := cell_below hb2 g1
  go_wp2
  go_ret
  exact ⟨rfl, hw2⟩

set_option maxRecDepth 100000 in
set_option maxHeartbeats 3200000 in
theorem Seen_few (n : Int) (v : Value) (a1 a2 : Int) (ss : List Strat) (w : World) (hv : StrataAt w v ss) (ht : readyB n ss = true) (hfew : ss.length = 0 ∨ n < 2) :
    Calls Try.prog 6 #[.agg #[.int .i64 n, v], .int .u8 a1, .int .u8 a2] w (Gives w (.bool true)) := by
  have hb0 : Below w.heap.size w (w.alloc (.cells #[.int .i64 n, v] 24)) := (Below.refl _ _).alloc (Nat.le_refl _) _
  obtain ⟨A, c, rfl, hc, hm⟩ := hv.form
  cases hz : ((ss.length : Int) == 0) with
  | true =>
    go_enter Try.func6, Try.ntmps6
    have g0 : (w.alloc (.cells #[.int .i64 n, .slice A ss.length c] 24)).cell? ⟨w.heap.size, 0, none⟩ = some (.int .i64 n) := by simp [go_sem]
    have g1 : (w.alloc (.cells #[.int .i64 n, .slice A ss.length c] 24)).cell? ⟨w.heap.size, 1, none⟩ = some (.slice A ss.length c) := by simp [go_sem]
    go_wp2_with fail
    refine (Gives.to ht (ready_any n _ ss _ (hv.below hb0))).mono ?_; rintro e w1 ⟨rfl, hb1⟩
    have hw1 := hb0.trans (hb1.mono hb0.size)
    replace g0 := cell_below hb1 g0
    replace g1 := cell_below hb1 g1
    go_wp2_with fail
    refine (wakes_any _).mono ?_; rintro e w2 ⟨rfl, hb2⟩
    have hw2 := hw1.trans (hb2.mono hw1.size)
    replace g0 := cell_below hb2 g0
    replace g1 := cell_below hb2 g1
    go_wp2
    go_ret
    exact ⟨rfl, hw2⟩
  | false =>
    have h2 : n < 2 := by
      rcases hfew with h | h
      · simp [h] at hz
      · exact h
    clear hfew
    go_enter Try.func6, Try.ntmps6
    have g0 : (w.alloc (.cells #[.int .i64 n, .slice A ss.length c] 24)).cell? ⟨w.heap.size, 0, none⟩ = some (.int .i64 n) := by simp [go_sem]
    have g1 : (w.alloc (.cells #[.int .i64 n, .slice A ss.length c] 24)).cell? ⟨w.heap.size, 1, none⟩ = some (.slice A ss.length c) := by simp [go_sem]
    go_wp2_with fail
    refine (Gives.to ht (ready_any n _ ss _ (hv.below hb0))).mono ?_; rintro e w1 ⟨rfl, hb1⟩
    have hw1 := hb0.trans (hb1.mono hb0.size)
    replace g0 := cell_below hb1 g0
    replace g1 := cell_below hb1 g1
    go_wp2_with fail
    refine (wakes_any _).mono ?_; rintro e w2 ⟨rfl, hb2⟩
    have hw2 := hw1.trans (hb2.mono hw1.size)
    replace g0 := cell_below hb2 g0
    replace g1 := cell_below hb2 g1
    go_wp2
    go_ret
    exact ⟨rfl, hw2⟩

set_option maxRecDepth 100000 in
set_option maxHeartbeats 3200000 in
theorem Seen_ready (m : Nat) (v : Value) (a1 a2 : Int) (ss : List Strat) (w : World) (hv : StrataAt w v ss) (h1 : 0 ≤ a1 ∧ a1 ≤ 255) (h2 : 0 ≤ a2 ∧ a2 ≤ 255) (hr : readyB m ss = true) (hpos : 0 < ss.length) (hm2 : 2 ≤ m) :
    Calls Try.prog 6 #[.agg #[.int .i64 m, v], .int .u8 a1, .int .u8 a2] w (Gives w (.bool true)) := by
  have hb0 : Below w.heap.size w (w.alloc (.cells #[.int .i64 m, v] 24)) := (Below.refl _ _).alloc (Nat.le_refl _) _
  obtain ⟨A, c, rfl, hc, hm⟩ := hv.form
  obtain ⟨ht, hf⟩ := ready_iff.1 hr
  obtain ⟨tl, tl9⟩ := thin_len ht
  have Htl := Lib.hid (fun (j : Nat) (s : Strat) (h : ss[j]? = some s) => Nat.le_trans (tl9 j s h) (by decide : 9 ≤ 1000))
  clear tl9
  have hs8 := (fault_zero hf).1
  have hn5 := (fault_zero hf).2.2.1
  have hm5 : m ≤ 5 := by omega
  have hz : ((ss.length : Int) == 0) = false := beq_eq_false_iff_ne.2 (by omega)
  have hm2' : (2 : Int) ≤ (m : Int) := by omega
  have Hf := Lib.hid hf
  have Hval := Lib.hid (fault_zero hf).2.2.2
  obtain ⟨i0, hi0, hz0, hz1, hz2⟩ := info_parts info44
  obtain ⟨i, hi, hi'⟩ : ∃ i : Nat, a1 % (ss.length : Int) = (i : Int) ∧ i < ss.length := ⟨(a1 % (ss.length : Int)).toNat, by have := Int.emod_nonneg a1 (b := (ss.length : Int)) (by omega); omega, by have := Int.emod_lt_of_pos a1 (b := (ss.length : Int)) (by omega); omega⟩
  obtain ⟨k, hk, hk'⟩ : ∃ k : Nat, a2 % (m : Int) = (k : Int) ∧ k < m := ⟨(a2 % (m : Int)).toNat, by have := Int.emod_nonneg a2 (b := (m : Int)) (by omega); omega, by have := Int.emod_lt_of_pos a2 (b := (m : Int)) (by omega); omega⟩
  have hi2 : (i : Int) < (ss.length : Int) := by omega
  obtain ⟨xs, hsrc, hvals, hone⟩ := vals_of_strata hv
  obtain ⟨b, o, s, y, rfl, hs, _, _, _, _, _, hby⟩ := hv.at_ hi'
  obtain ⟨v0, v1, v2, u, v3, hu⟩ := hvals.2 i s hs
  have hxl := hvals.1
  have hst := Hval.out i s hs
  have hsn := (stratB_iff.1 hst).2.2.2.2.1
  have hsa := seen_at hst k
  have hks : k < s.seen.length := by omega
  have hs5 : s.seen.length ≤ 5 := by omega
  have hksI : (k : Int) < (s.seen.length : Int) := by omega
  have Hs := Lib.hid hs
  have Hst := Lib.hid hst
  clear hf ht hs hst hsn
  go_enter Try.func6, Try.ntmps6
  have g0 : (w.alloc (.cells #[.int .i64 m, .slice (some ⟨b, o, none⟩) ss.length c] 24)).cell? ⟨w.heap.size, 0, none⟩ = some (.int .i64 m) := by simp [go_sem]
  have g1 : (w.alloc (.cells #[.int .i64 m, .slice (some ⟨b, o, none⟩) ss.length c] 24)).cell? ⟨w.heap.size, 1, none⟩ = some (.slice (some ⟨b, o, none⟩) ss.length c) := by simp [go_sem]
  go_wp2_with fail
  refine (Gives.to hr (ready_any m _ ss _ (hv.below hb0))).mono ?_; rintro e w1 ⟨rfl, hb1⟩
  have hw1 := hb0.trans (hb1.mono hb0.size)
  replace g0 := cell_below hb1 g0
  replace g1 := cell_below hb1 g1
  clear hr
  have x0 := Later.cell g0
  have x1 := Later.cell g1
  go_wp2_with fail
  refine wp_region_later (by kernel_rfl) (by kernel_rfl) ?_
  repeat (go_big_quiet_step (fail))
  refine wpQuiet_nil ?_
  intro w2 hx2
  have hb2 := Later.out hx2
  have hw2 := hw1.trans (hb2.mono hw1.size)
  clear hx2 x0 x1
  replace g0 := cell_below hb2 g0
  replace g1 := cell_below hb2 g1
  rw [hi, hk]
  clear hi hk
  have hs0 : w.heap.size < w2.heap.size := by have := World.block_lt_of_cell? w2 _ g0; simpa using this
  go_upto_region 5 with fail
  have hx0 : Below w2.heap.size w2 (w2.alloc (.cells #[.int .i64 m, .slice (some ⟨b, o, none⟩) ss.length c] 24)) := (Below.refl _ _).alloc (Nat.le_refl _) _
  have hx1 : Below w2.heap.size w2 ((w2.alloc (.cells #[.int .i64 m, .slice (some ⟨b, o, none⟩) ss.length c] 24)).alloc (.cells #[] 44)) := hx0.alloc (by simp) _
  have ho : ((w2.alloc (.cells #[.int .i64 m, .slice (some ⟨b, o, none⟩) ss.length c] 24)).alloc (.cells #[] 44)).ownsRow (w2.heap.size + 1) 44 4 (.slice (some ⟨w2.heap.size + 1, 0, none⟩) 0 0) 0 [] := by
    have := World.ownsRow_lit (base := w2.heap.size + 1) (e := 44) (size := 4) (w2.alloc (.cells #[.int .i64 m, .slice (some ⟨b, o, none⟩) ss.length c] 24)) #[] 0 (by simp) (by simp [maxLen]) (by simp)
    simpa using this
  have hsrc2 := src_below hsrc (hw2.trans (hx1.mono hw2.size))
  have fb0 : ((w2.alloc (.cells #[.int .i64 m, .slice (some ⟨b, o, none⟩) ss.length c] 24)).alloc (.cells #[] 44)).cell? ⟨w2.heap.size, 0, none⟩ = some (.int .i64 m) := by simp [go_sem]
  have fb1 : ((w2.alloc (.cells #[.int .i64 m, .slice (some ⟨b, o, none⟩) ss.length c] 24)).alloc (.cells #[] 44)).cell? ⟨w2.heap.size, 1, none⟩ = some (.slice (some ⟨b, o, none⟩) ss.length c) := by simp [go_sem]
  have fz1 : ((w2.alloc (.cells #[.int .i64 m, .slice (some ⟨b, o, none⟩) ss.length c] 24)).alloc (.cells #[] 44)).frozen? ⟨w2.heap.size, 1, none⟩ = false := by simp [go_sem]
  go_upto_region 6 with (at_builtin; refine wpList_append_src _ rfl (.tmp 43) (.tmp 45) 22 rfl (w2.heap.size + 1) 44 i0 _ 4 48 Try.underlying22 hi0 hz0 hz1 hz2 rfl (by omega) _ 0 [] rfl ho (some ⟨b, o, none⟩) ss.length c xs rfl hsrc2 hone (by simp [maxLen]; omega) (by omega) (by simp) ?_; intro v3 w3 hown3 hg3 hat3; rw [Nat.zero_add, List.nil_append] at hown3; obtain ⟨A3, c3, rfl⟩ := own_form hown3; obtain ⟨g3, rfl, hg3a, hg3b⟩ := own_some hown3 hpos; have fb0 := hg3.cell (a := ⟨w2.heap.size, 0, none⟩) fb0 (fun e => by have e' : w2.heap.size = w2.heap.size + 1 := Option.some.inj e; omega); have fb1 := hg3.cell (a := ⟨w2.heap.size, 1, none⟩) fb1 (fun e => by have e' : w2.heap.size = w2.heap.size + 1 := Option.some.inj e; omega); have fz1 : w3.frozen? ⟨w2.heap.size, 1, none⟩ = false := (World.frozen?_of_block (hg3.block w2.heap.size (by first | (simp; done) | (simp; omega)) (fun e => by have e' : w2.heap.size = w2.heap.size + 1 := Option.some.inj e; omega))).trans fz1)
  have hg3c : g3 ≠ w2.heap.size := by omega
  have hA : Below w2.heap.size w2 (w3.setCell ⟨w2.heap.size, 1, none⟩ (.slice (some ⟨g3, 0, none⟩) ss.length c3)) := (below_grown hx1 hg3 (by simp; omega) ho (by omega)).setCell (p := ⟨w2.heap.size, 1, none⟩) (Nat.le_refl _) _
  have fA0 : (w3.setCell ⟨w2.heap.size, 1, none⟩ (.slice (some ⟨g3, 0, none⟩) ss.length c3)).cell? ⟨w2.heap.size, 0, none⟩ = some (.int .i64 m) := by
    rw [World.cell?_setCell_other _ _ _ _ (by simp)]; exact fb0
  have fA1 : (w3.setCell ⟨w2.heap.size, 1, none⟩ (.slice (some ⟨g3, 0, none⟩) ss.length c3)).cell? ⟨w2.heap.size, 1, none⟩ = some (.slice (some ⟨g3, 0, none⟩) ss.length c3) := World.cell?_setCell_same' _ _ _ (by rw [fb1]; rfl)
  have ownA := ownsRow_setCell_below hown3 (a := ⟨w2.heap.size, 1, none⟩) (by simp only; omega) (.slice (some ⟨g3, 0, none⟩) ss.length c3)
  have hsA : g3 < (w3.setCell ⟨w2.heap.size, 1, none⟩ (.slice (some ⟨g3, 0, none⟩) ss.length c3)).heap.size := (ownA.lt _ rfl).2
  generalize hWA : w3.setCell ⟨w2.heap.size, 1, none⟩ (.slice (some ⟨g3, 0, none⟩) ss.length c3) = WA at *
  clear hWA hown3 hg3 hat3 fb0 fb1 fz1 ho hsrc2 hx0 hx1 hg3b hsrc
  have hwA := hw2.trans (hA.mono hw2.size)
  replace g0 := cell_below hA g0
  replace g1 := cell_below hA g1
  have r0 : WA.cell? ⟨g3, i * 4, none⟩ = some (.int .i64 s.coins) := by rw [ownA.cellAt _ (by omega)]; exact v0
  have r1 : WA.cell? ⟨g3, i * 4 + 1, none⟩ = some (.int .i64 s.lo) := by rw [ownA.cellAt _ (by omega)]; exact v1
  have r2 : WA.cell? ⟨g3, i * 4 + 2, none⟩ = some (.int .i64 s.hi) := by rw [ownA.cellAt _ (by omega)]; exact v2
  have r3 : WA.cell? ⟨g3, i * 4 + 3, none⟩ = some u := by rw [ownA.cellAt _ (by omega)]; exact v3
  have Hu := Lib.hid (hu.below hwA)
  obtain ⟨Ay, cy, rfl, hcy, hmy⟩ := hu.form
  clear hu v0 v1 v2 v3
  go_upto_region 7 with fail
  have hB0 : Below WA.heap.size WA (WA.alloc (.cells #[.int .i64 s.coins, .int .i64 s.lo, .int .i64 s.hi, .slice Ay s.seen.length cy] 44)) := (Below.refl _ _).alloc (Nat.le_refl _) _
  have p0 : (WA.alloc (.cells #[.int .i64 s.coins, .int .i64 s.lo, .int .i64 s.hi, .slice Ay s.seen.length cy] 44)).cell? ⟨WA.heap.size, 0, none⟩ = some (.int .i64 s.coins) := by simp [go_sem]
  have p1 : (WA.alloc (.cells #[.int .i64 s.coins, .int .i64 s.lo, .int .i64 s.hi, .slice Ay s.seen.length cy] 44)).cell? ⟨WA.heap.size, 1, none⟩ = some (.int .i64 s.lo) := by simp [go_sem]
  have p2 : (WA.alloc (.cells #[.int .i64 s.coins, .int .i64 s.lo, .int .i64 s.hi, .slice Ay s.seen.length cy] 44)).cell? ⟨WA.heap.size, 2, none⟩ = some (.int .i64 s.hi) := by simp [go_sem]
  have p3 : (WA.alloc (.cells #[.int .i64 s.coins, .int .i64 s.lo, .int .i64 s.hi, .slice Ay s.seen.length cy] 44)).cell? ⟨WA.heap.size, 3, none⟩ = some (.slice Ay s.seen.length cy) := by simp [go_sem]
  have pz : (WA.alloc (.cells #[.int .i64 s.coins, .int .i64 s.lo, .int .i64 s.hi, .slice Ay s.seen.length cy] 44)).frozen? ⟨WA.heap.size, 3, none⟩ = false := by simp [go_sem]
  go_upto_region 8 with (go_at_call 31; refine (list_any _ s.seen _ (Hu.out.below hB0) (by omega)).mono ?_; rintro e w4 ⟨A4, C4, rfl, o4, hb4⟩; obtain ⟨g4, rfl, hg4a, hg4b⟩ := own_some o4 (by omega); replace p0 := cell_below hb4 p0; replace p1 := cell_below hb4 p1; replace p2 := cell_below hb4 p2; replace p3 := cell_below hb4 p3; have pz : w4.frozen? ⟨WA.heap.size, 3, none⟩ = false := (hb4.frozen (p := ⟨WA.heap.size, 3, none⟩) (by simp)).trans pz)
  have hg4c : WA.heap.size < g4 := by simp at hg4a; omega
  have hB : Below WA.heap.size WA (w4.setCell ⟨WA.heap.size, 3, none⟩ (.slice (some ⟨g4, 0, none⟩) s.seen.length C4)) := (hB0.trans (hb4.mono hB0.size)).setCell (p := ⟨WA.heap.size, 3, none⟩) (Nat.le_refl _) _
  have q0 : (w4.setCell ⟨WA.heap.size, 3, none⟩ (.slice (some ⟨g4, 0, none⟩) s.seen.length C4)).cell? ⟨WA.heap.size, 0, none⟩ = some (.int .i64 s.coins) := by rw [World.cell?_setCell_other _ _ _ _ (by simp)]; exact p0
  have q1 : (w4.setCell ⟨WA.heap.size, 3, none⟩ (.slice (some ⟨g4, 0, none⟩) s.seen.length C4)).cell? ⟨WA.heap.size, 1, none⟩ = some (.int .i64 s.lo) := by rw [World.cell?_setCell_other _ _ _ _ (by simp)]; exact p1
  have q2 : (w4.setCell ⟨WA.heap.size, 3, none⟩ (.slice (some ⟨g4, 0, none⟩) s.seen.length C4)).cell? ⟨WA.heap.size, 2, none⟩ = some (.int .i64 s.hi) := by rw [World.cell?_setCell_other _ _ _ _ (by simp)]; exact p2
  have q3 : (w4.setCell ⟨WA.heap.size, 3, none⟩ (.slice (some ⟨g4, 0, none⟩) s.seen.length C4)).cell? ⟨WA.heap.size, 3, none⟩ = some (.slice (some ⟨g4, 0, none⟩) s.seen.length C4) := World.cell?_setCell_same' _ _ _ (by rw [p3]; rfl)
  have ownB := ownsRow_setCell_below o4 (a := ⟨WA.heap.size, 3, none⟩) (by simp) (.slice (some ⟨g4, 0, none⟩) s.seen.length C4)
  generalize hWB : w4.setCell ⟨WA.heap.size, 3, none⟩ (.slice (some ⟨g4, 0, none⟩) s.seen.length C4) = WB at *
  clear hWB p0 p1 p2 p3 pz o4 hb4 hB0 hg4b r0 r1 r2 r3
  have hwB := hwA.trans (hB.mono hwA.size)
  replace g0 := cell_below hB g0
  replace g1 := cell_below hB g1
  replace fA0 := cell_below hB fA0
  replace fA1 := cell_below hB fA1
  have ownAB := own_below ownA hB
  obtain ⟨x, hx⟩ : ∃ x, s.seen[k]?.getD 0 = x := ⟨_, rfl⟩
  have l1 : WB.cell? ⟨g4, k, none⟩ = some (.int .i64 x) := by
    rw [ownB.cellAt k (by omega), List.getElem?_map, ← hx, List.getElem?_eq_getElem hks]
    rfl
  have l2 := ownB.frozenAt k
  rw [hx] at hsa
  have Hx := Lib.hid hx
  have hst1 := ownB.stored k (.int .i64 (x + 1))
  rw [← List.map_set] at hst1
  have ownC := hst1.1
  have grC := hst1.2
  clear hst1 hx
  go_upto_region 9 with fail
  have hC : Below WA.heap.size WB (WB.setCell ⟨g4, k, none⟩ (.int .i64 (x + 1))) := (Below.refl WA.heap.size WB).setCell (p := ⟨g4, k, none⟩) (by simp only; omega) _
  have d0 := grC.cell (a := ⟨WA.heap.size, 0, none⟩) q0 (fun e => by have e' : WA.heap.size = g4 := Option.some.inj e; omega)
  have d1 := grC.cell (a := ⟨WA.heap.size, 1, none⟩) q1 (fun e => by have e' : WA.heap.size = g4 := Option.some.inj e; omega)
  have d2 := grC.cell (a := ⟨WA.heap.size, 2, none⟩) q2 (fun e => by have e' : WA.heap.size = g4 := Option.some.inj e; omega)
  have d3 := grC.cell (a := ⟨WA.heap.size, 3, none⟩) q3 (fun e => by have e' : WA.heap.size = g4 := Option.some.inj e; omega)
  have g3lt : g3 < WA.heap.size := hsA
  replace g0 := grC.cell g0 (fun e => by have e' : w.heap.size = g4 := Option.some.inj e; have := hwA.size; omega)
  replace g1 := grC.cell g1 (fun e => by have e' : w.heap.size = g4 := Option.some.inj e; have := hwA.size; omega)
  replace fA0 := grC.cell fA0 (fun e => by have e' : w2.heap.size = g4 := Option.some.inj e; have := hA.size; omega)
  replace fA1 := grC.cell fA1 (fun e => by have e' : w2.heap.size = g4 := Option.some.inj e; have := hA.size; omega)
  have ownAC := ownAB.kept grC (.inr (fun e => by have e' : g3 = g4 := Option.some.inj e; omega))
  generalize hWC : WB.setCell ⟨g4, k, none⟩ (.int .i64 (x + 1)) = WC at *
  clear hWC ownB grC l1 l2 q0 q1 q2 q3
  have hwC : Below w.heap.size w WC := hwB.trans (hC.mono (by have := hwA.size; omega))
  have r0 : ∃ z, WC.cell? ⟨g3, i * 4, none⟩ = some z := ⟨_, by rw [ownAC.cellAt _ (by omega), List.getElem?_eq_getElem (by omega)]⟩
  have r1 : ∃ z, WC.cell? ⟨g3, i * 4 + 1, none⟩ = some z := ⟨_, by rw [ownAC.cellAt _ (by omega), List.getElem?_eq_getElem (by omega)]⟩
  have r2 : ∃ z, WC.cell? ⟨g3, i * 4 + 2, none⟩ = some z := ⟨_, by rw [ownAC.cellAt _ (by omega), List.getElem?_eq_getElem (by omega)]⟩
  have r3 : ∃ z, WC.cell? ⟨g3, i * 4 + 3, none⟩ = some z := ⟨_, by rw [ownAC.cellAt _ (by omega), List.getElem?_eq_getElem (by omega)]⟩
  obtain ⟨z0, r0⟩ := r0
  obtain ⟨z1, r1⟩ := r1
  obtain ⟨z2, r2⟩ := r2
  obtain ⟨z3, r3⟩ := r3
  have rz := fun j => ownAC.frozenAt j
  have rz0 := rz (i * 4)
  have rz1 := rz (i * 4 + 1)
  have rz2 := rz (i * 4 + 2)
  have rz3 := rz (i * 4 + 3)
  clear rz
  go_upto_region 10 with fail
  have t1 := ownAC.stored (i * 4) (.int .i64 s.coins)
  have t2 := t1.1.stored (i * 4 + 1) (.int .i64 s.lo)
  have t3 := t2.1.stored (i * 4 + 2) (.int .i64 s.hi)
  have t4 := t3.1.stored (i * 4 + 3) (.slice (some ⟨g4, 0, none⟩) s.seen.length C4)
  have far : ∀ (p : Addr) (u : Value), p.block ≠ g3 → WC.cell? p = some u → ((((WC.setCell ⟨g3, i * 4, none⟩ (.int .i64 s.coins)).setCell ⟨g3, i * 4 + 1, none⟩ (.int .i64 s.lo)).setCell ⟨g3, i * 4 + 2, none⟩ (.int .i64 s.hi)).setCell ⟨g3, i * 4 + 3, none⟩ (.slice (some ⟨g4, 0, none⟩) s.seen.length C4)).cell? p = some u := fun p u hp hc =>
    t4.2.cell (t3.2.cell (t2.2.cell (t1.2.cell hc (fun e => hp (Option.some.inj e))) (fun e => hp (Option.some.inj e))) (fun e => hp (Option.some.inj e))) (fun e => hp (Option.some.inj e))
  have hsz1 := hw2.size
  have hsz2 := hA.size
  replace g0 := far _ _ (by simp only; omega) g0
  replace g1 := far _ _ (by simp only; omega) g1
  replace fA0 := far _ _ (by simp only; omega) fA0
  replace fA1 := far _ _ (by simp only; omega) fA1
  have hg43 : ∀ (q : Option Nat), q = some g3 → (Value.slice (some ⟨g4, 0, none⟩) s.seen.length C4).ownBlock ≠ q := fun q hq e => by
    have e' : some g4 = some g3 := e.trans hq
    have := Option.some.inj e'
    omega
  have ownD := (((ownC.kept t1.2 (.inr (hg43 _ rfl))).kept t2.2 (.inr (hg43 _ rfl))).kept t3.2 (.inr (hg43 _ rfl))).kept t4.2 (.inr (hg43 _ rfl))
  have hwD : Below w.heap.size w ((((WC.setCell ⟨g3, i * 4, none⟩ (.int .i64 s.coins)).setCell ⟨g3, i * 4 + 1, none⟩ (.int .i64 s.lo)).setCell ⟨g3, i * 4 + 2, none⟩ (.int .i64 s.hi)).setCell ⟨g3, i * 4 + 3, none⟩ (.slice (some ⟨g4, 0, none⟩) s.seen.length C4)) :=
    (((hwC.setCell (p := ⟨g3, i * 4, none⟩) (by simp only; omega) _).setCell (p := ⟨g3, i * 4 + 1, none⟩) (by simp only; omega) _).setCell (p := ⟨g3, i * 4 + 2, none⟩) (by simp only; omega) _).setCell (p := ⟨g3, i * 4 + 3, none⟩) (by simp only; omega) _
  have rowD := t4.1
  generalize hWD : (((WC.setCell ⟨g3, i * 4, none⟩ (.int .i64 s.coins)).setCell ⟨g3, i * 4 + 1, none⟩ (.int .i64 s.lo)).setCell ⟨g3, i * 4 + 2, none⟩ (.int .i64 s.hi)).setCell ⟨g3, i * 4 + 3, none⟩ (.slice (some ⟨g4, 0, none⟩) s.seen.length C4) = WD at *
  have hmo : moreL ss i k = ss.set i (seenMore s k) := by simp only [moreL, Hs.out, Option.getD_some]
  have hsm : (seenMore s k).seen = s.seen.set k (x + 1) := by simp only [seenMore, Hx.out]
  have hnew : NumsAt .i64 WD (.slice (some ⟨g4, 0, none⟩) s.seen.length C4) (seenMore s k).seen := by rw [hsm]; exact nums_of_own ownD
  have sx : StrataAt WD (.slice (some ⟨g3, 0, none⟩) ss.length c3) (moreL ss i k) := by
    rw [hmo]
    exact strata_of_vals rowD (vals_set (s := seenMore s k) (hvals.below hwD) hi' hnew)
  have hml : (moreL ss i k).length = ss.length := by simp [moreL]
  have hml8 : (moreL ss i k).length ≤ 8 := by omega
  have Hml := Lib.hid hml
  have Htl2 : Hid (∀ (j : Nat) (s' : Strat), (moreL ss i k)[j]? = some s' → s'.seen.length ≤ 1000) := by
    intro j s' hj
    rw [hmo, List.getElem?_set] at hj
    split at hj
    · cases hj
      rw [hsm, List.length_set]
      omega
    · exact Htl.out j s' hj
  clear hWD hmo hsm hnew hml t1 t2 t3 t4 far r0 r1 r2 r3 rz0 rz1 rz2 rz3 d0 d1 d2 d3 ownC ownAC ownAB ownA hg43 rowD ownD hone hvals fb0 fb1
  have hmb := more_bound Hf.out (by omega : (2 : Int) ≤ (m : Int)) hi' (by omega : (k : Int) < (m : Int))
  have Hmb := Lib.hid hmb
  clear hmb
  have hd0 := hwD
  go_wp2_with fail
  refine (Fault_any m _ (moreL ss i k) _ sx).mono ?_; rintro e w20 ⟨rfl, hb20⟩
  have hw20 := hd0.trans (hb20.mono hd0.size)
  replace g0 := cell_below hb20 g0
  replace g1 := cell_below hb20 g1
  replace fA0 := cell_below hb20 fA0
  replace fA1 := cell_below hb20 fA1
  replace sx := sx.below hb20
  by_cases hf2 : faultI m (moreL ss i k) = 0
  · rw [hf2]
    go_wp2_with fail
    refine (Pool_any m _ ss _ (hv.below hw20) (by omega) Htl.out).mono ?_; rintro e w30 ⟨v30, rfl, s30, hb30⟩
    have hw30 := hw20.trans (hb30.mono hw20.size)
    replace g0 := cell_below hb30 g0
    replace g1 := cell_below hb30 g1
    replace fA0 := cell_below hb30 fA0
    replace fA1 := cell_below hb30 fA1
    replace sx := sx.below hb30
    obtain ⟨A30, c30, rfl, hc30, hm30⟩ := s30.form
    go_wp2_with fail
    refine (Bounds_ok m _ ss _ s30 Hf.out).mono ?_; rintro e w31 ⟨gb1, rfl, hgb1, ob1, hb31⟩
    have hw31 := hw30.trans (hb31.mono hw30.size)
    replace g0 := cell_below hb31 g0
    replace g1 := cell_below hb31 g1
    replace fA0 := cell_below hb31 fA0
    replace fA1 := cell_below hb31 fA1
    replace sx := sx.below hb31
    replace s30 := s30.below hb31
    go_wp2_with fail
    refine (Pool_any m _ (moreL ss i k) _ sx (by omega) Htl2.out).mono ?_; rintro e w32 ⟨v32, rfl, s32, hb32⟩
    have hw32 := hw31.trans (hb32.mono hw31.size)
    replace g0 := cell_below hb32 g0
    replace g1 := cell_below hb32 g1
    replace fA0 := cell_below hb32 fA0
    replace fA1 := cell_below hb32 fA1
    replace sx := sx.below hb32
    replace ob1 := ob1.below hb32
    obtain ⟨A32, c32, rfl, hc32, hm32⟩ := s32.form
    go_wp2_with fail
    refine (Bounds_ok m _ (moreL ss i k) _ s32 hf2).mono ?_; rintro e w33 ⟨gb2, rfl, hgb2, ob2, hb33⟩
    have hw33 := hw32.trans (hb33.mono hw32.size)
    replace g0 := cell_below hb33 g0
    replace g1 := cell_below hb33 g1
    replace fA0 := cell_below hb33 fA0
    replace fA1 := cell_below hb33 fA1
    replace sx := sx.below hb33
    replace ob1 := ob1.below hb33
    clear hf2
    go_wp2_with fail
    go_loopw [15] (fun i wr => ∃ j : Nat, j ≤ m ∧ i = .int .i64 j ∧ Below w33.heap.size w33 wr) (fun i wr => m - (intOf i).toNat)
    case atStart => exact ⟨0, by omega, rfl, Below.refl _ _⟩
    case round =>
      obtain ⟨j, hj, rfl, hbr⟩ := hrel
      obtain ⟨wo, rfl⟩ : ∃ wo : World, wo = wr := ⟨_, rfl⟩
      replace g0 := cell_below hbr g0
      replace g1 := cell_below hbr g1
      replace ob1 := ob1.below hbr
      replace ob2 := ob2.below hbr
      by_cases hlt : j < m
      · have hlt' : (j : Int) < (m : Int) := by omega
        have hmj := Hmb.out j ss.length (Nat.le_refl _)
        have q0 := ob1.c0 hlt
        have q1 := ob1.c1 hlt
        have q2 := ob2.c0 hlt
        have q3 := ob2.c1 hlt
        rw [Hml.out] at q2 q3
        obtain ⟨aL, haL⟩ : ∃ x, (boundK ss j ss.length).1 = x := ⟨_, rfl⟩
        obtain ⟨aH, haH⟩ : ∃ x, (boundK ss j ss.length).2 = x := ⟨_, rfl⟩
        obtain ⟨bL, hbL⟩ : ∃ x, (boundK (moreL ss i k) j ss.length).1 = x := ⟨_, rfl⟩
        obtain ⟨bH, hbH⟩ : ∃ x, (boundK (moreL ss i k) j ss.length).2 = x := ⟨_, rfl⟩
        rw [haL, haH, hbL, hbH] at hmj
        rw [haL] at q0
        rw [haH] at q1
        rw [hbL] at q2
        rw [hbH] at q3
        clear haL haH hbL hbH
        obtain ⟨⟨n1, n2⟩, n3, n4⟩ := hmj
        have t1 : decide (bL < aL) = false := decide_eq_false (by omega)
        have t2 : decide (aH < bH) = false := decide_eq_false (by omega)
        by_cases e : j = k
        · have e1 : ((j : Int) == (k : Int)) = true := by simp [e]
          have e2 : ((j : Int) != (k : Int)) = false := by simp [e]
          obtain rfl : bH = aH := n3 e
          clear n3 n4 e
          have x0 := Later.cell q0
          have x1 := Later.cell q1
          have x2 := Later.cell q2
          have x3 := Later.cell q3
          go_wp2_with fail
          refine wp_region_later (by kernel_rfl) (by kernel_rfl) ?_
          repeat (go_big_quiet_step (fail))
          refine wpQuiet_nil ?_
          intro w60 hx60
          have hb60 := Later.out hx60
          clear hx60 x0 x1 x2 x3
          go_wp2
          go_roundw
          case rel => exact ⟨j + 1, by omega, by go_num, hbr.trans (hb60.mono hbr.size)⟩
          case measure => simp [intOf]; omega
        · have e1 : ((j : Int) == (k : Int)) = false := beq_eq_false_iff_ne.2 (by omega)
          have e2 : ((j : Int) != (k : Int)) = true := by simp; omega
          obtain rfl : bL = aL := n4 e
          clear n3 n4 e
          have x0 := Later.cell q0
          have x1 := Later.cell q1
          have x2 := Later.cell q2
          have x3 := Later.cell q3
          go_wp2_with fail
          refine wp_region_later (by kernel_rfl) (by kernel_rfl) ?_
          repeat (go_big_quiet_step (fail))
          refine wpQuiet_nil ?_
          intro w60 hx60
          have hb60 := Later.out hx60
          clear hx60 x0 x1 x2 x3
          go_wp2
          go_roundw
          case rel => exact ⟨j + 1, by omega, by go_num, hbr.trans (hb60.mono hbr.size)⟩
          case measure => simp [intOf]; omega
      · obtain rfl : j = m := by omega
        have hwo := hw33.trans (hbr.mono hw33.size)
        go_wp2_with (go_at_call 18; refine (wakes_any _).mono ?_; rintro e w70 ⟨rfl, hb70⟩)
        go_ret
        exact ⟨rfl, hwo.trans (hb70.mono hwo.size)⟩
  · have hf3 : (faultI m (moreL ss i k) != 0) = true := by simpa using hf2
    clear hf2
    go_wp2_with (go_at_call 18; refine (wakes_any _).mono ?_; rintro e w70 ⟨rfl, hb70⟩)
    go_ret
    exact ⟨rfl, hw20.trans (hb70.mono hw20.size)⟩

theorem Seen_law (n : Int) (v : Value) (a1 a2 : Int) (ss : List Strat) (w : World) (hv : StrataAt w v ss) (h1 : 0 ≤ a1 ∧ a1 ≤ 255) (h2 : 0 ≤ a2 ∧ a2 ≤ 255) :
    Calls Try.prog 6 #[.agg #[.int .i64 n, v], .int .u8 a1, .int .u8 a2] w (Gives w (.bool true)) := by
  cases hr : readyB n ss with
  | false => exact Seen_not n v a1 a2 ss w hv hr
  | true =>
    by_cases hfew : ss.length = 0 ∨ n < 2
    · exact Seen_few n v a1 a2 ss w hv hr hfew
    · obtain ⟨m, rfl⟩ : ∃ m : Nat, n = m := ⟨n.toNat, by omega⟩
      exact Seen_ready m v a1 a2 ss w hv h1 h2 hr (by omega) (by omega)
end Go.Proofs.Ytobeffjdfhkjeaa
