import Derived.Test.YtllobkhdeahgpaaE3
set_option linter.unusedVariables false
set_option linter.unusedSimpArgs false
namespace Go.Proofs.Ytllobkhdeahgpaa
open Go Go.Proofs Go.RowKit

/-! ### DutyProved -/
set_option maxRecDepth 100000 in
set_option maxHeartbeats 800000 in
theorem Proved_dark_a (d : DDay) (u z v : Value) (ws : List Int) (x : Nat) (w : World) (hda : DayAt w u z d) (hv : NumsAt .i64 w v ws) (hx : x < 65536) (hr : readyB d = false) :
    Calls Try.prog 3 #[.agg #[.int .i64 d.law.piece, .int .i64 d.law.drive, .int .i64 d.law.spread, .int .i64 d.law.brk, .int .i64 d.law.on, .int .i64 d.law.off, .int .i64 d.law.least, .int .i64 d.law.pieces, u, z], v, .int .u16 (x : Int)] w (Gives w (.bool true)) := by
  obtain ⟨AW, cW, rfl, _, _⟩ := hv.form
  have Hv := Lib.hid hv
  clear hv
  have Hr := Lib.hid hr
  clear hr
  obtain ⟨A1, c1, rfl, _, _⟩ := hda.blocks.form
  obtain ⟨A2, c2, rfl, _, _⟩ := hda.walk.form
  have hw0 : Below w.heap.size w (w.alloc (.cells #[.int .i64 d.law.piece, .int .i64 d.law.drive, .int .i64 d.law.spread, .int .i64 d.law.brk, .int .i64 d.law.on, .int .i64 d.law.off, .int .i64 d.law.least, .int .i64 d.law.pieces, .slice A1 d.blocks.length c1, .slice A2 d.walk.length c2] 27)) := (Below.refl _ _).alloc (Nat.le_refl _) _
  have G0 := Lib.hid (heap_alloc_new w (.cells #[.int .i64 d.law.piece, .int .i64 d.law.drive, .int .i64 d.law.spread, .int .i64 d.law.brk, .int .i64 d.law.on, .int .i64 d.law.off, .int .i64 d.law.least, .int .i64 d.law.pieces, .slice A1 d.blocks.length c1, .slice A2 d.walk.length c2] 27 (0, 0)))
  have Hda := Lib.hid hda

  clear hda
  go_enter Try.func3, Try.ntmps3
  have gc := box_cells G0.out
  have gf := box_frozen G0.out
  go_wp2_with fail
  refine (Gives.to Hr.out (ready_any d _ _ _ (Hda.out.below hw0))).mono ?_
  rintro e w1 ⟨rfl, hb1⟩
  have hw1 := hw0.trans (hb1.mono hw0.size)
  have G1 := Lib.hid (box_step hb1 G0.out)
  replace gc := box_cells G1.out
  replace gf := box_frozen G1.out
  go_wp2_with fail
  refine (wakes_any _).mono ?_
  rintro e w2 ⟨rfl, hb2⟩
  have hw2 := hw1.trans (hb2.mono hw1.size)
  have G2 := Lib.hid (box_step hb2 G1.out)
  replace gc := box_cells G2.out
  replace gf := box_frozen G2.out
  go_wp2
  go_ret
  exact ⟨rfl, hw2⟩
set_option maxRecDepth 100000 in
set_option maxHeartbeats 800000 in
theorem Proved_dark_b (d : DDay) (u z v : Value) (ws : List Int) (x : Nat) (w : World) (hda : DayAt w u z d) (hv : NumsAt .i64 w v ws) (hx : x < 65536) (hr : readyB d = true) (hs : 7 < segN d.blocks) :
    Calls Try.prog 3 #[.agg #[.int .i64 d.law.piece, .int .i64 d.law.drive, .int .i64 d.law.spread, .int .i64 d.law.brk, .int .i64 d.law.on, .int .i64 d.law.off, .int .i64 d.law.least, .int .i64 d.law.pieces, u, z], v, .int .u16 (x : Int)] w (Gives w (.bool true)) := by
  obtain ⟨AW, cW, rfl, _, _⟩ := hv.form
  have Hv := Lib.hid hv
  clear hv
  have hm := (ready_ok hr).2.1
  have Hr := Lib.hid hr
  clear hr
  have hsI : 7 < (segN d.blocks : Int) := by omega
  obtain ⟨A1, c1, rfl, _, _⟩ := hda.blocks.form
  obtain ⟨A2, c2, rfl, _, _⟩ := hda.walk.form
  have hw0 : Below w.heap.size w (w.alloc (.cells #[.int .i64 d.law.piece, .int .i64 d.law.drive, .int .i64 d.law.spread, .int .i64 d.law.brk, .int .i64 d.law.on, .int .i64 d.law.off, .int .i64 d.law.least, .int .i64 d.law.pieces, .slice A1 d.blocks.length c1, .slice A2 d.walk.length c2] 27)) := (Below.refl _ _).alloc (Nat.le_refl _) _
  have G0 := Lib.hid (heap_alloc_new w (.cells #[.int .i64 d.law.piece, .int .i64 d.law.drive, .int .i64 d.law.spread, .int .i64 d.law.brk, .int .i64 d.law.on, .int .i64 d.law.off, .int .i64 d.law.least, .int .i64 d.law.pieces, .slice A1 d.blocks.length c1, .slice A2 d.walk.length c2] 27 (0, 0)))
  have Hda := Lib.hid hda

  clear hda
  go_enter Try.func3, Try.ntmps3
  have gc := box_cells G0.out
  have gf := box_frozen G0.out
  go_wp2_with fail
  refine (Gives.to Hr.out (ready_any d _ _ _ (Hda.out.below hw0))).mono ?_
  rintro e w1 ⟨rfl, hb1⟩
  have hw1 := hw0.trans (hb1.mono hw0.size)
  have G1 := Lib.hid (box_step hb1 G0.out)
  replace gc := box_cells G1.out
  replace gf := box_frozen G1.out
  go_wp2_with fail
  refine (Segments_any d _ _ _ (Hda.out.below hw1) hm).mono ?_
  rintro e w2 ⟨rfl, hb2⟩
  have hw2 := hw1.trans (hb2.mono hw1.size)
  have G2 := Lib.hid (box_step hb2 G1.out)
  replace gc := box_cells G2.out
  replace gf := box_frozen G2.out
  go_wp2_with fail
  refine (wakes_any _).mono ?_
  rintro e w3 ⟨rfl, hb3⟩
  have hw3 := hw2.trans (hb3.mono hw2.size)
  have G3 := Lib.hid (box_step hb3 G2.out)
  replace gc := box_cells G3.out
  replace gf := box_frozen G3.out
  go_wp2
  go_ret
  exact ⟨rfl, hw3⟩
set_option maxRecDepth 100000 in
set_option maxHeartbeats 800000 in
theorem Proved_dark_c (d : DDay) (u z v : Value) (ws : List Int) (x : Nat) (w : World) (hda : DayAt w u z d) (hv : NumsAt .i64 w v ws) (hx : x < 65536) (hr : readyB d = true) (hs : segN d.blocks ≤ 7) (hl : 14 < ws.length) :
    Calls Try.prog 3 #[.agg #[.int .i64 d.law.piece, .int .i64 d.law.drive, .int .i64 d.law.spread, .int .i64 d.law.brk, .int .i64 d.law.on, .int .i64 d.law.off, .int .i64 d.law.least, .int .i64 d.law.pieces, u, z], v, .int .u16 (x : Int)] w (Gives w (.bool true)) := by
  obtain ⟨AW, cW, rfl, _, _⟩ := hv.form
  have Hv := Lib.hid hv
  clear hv
  have hm := (ready_ok hr).2.1
  have Hr := Lib.hid hr
  clear hr
  have hsI : ¬ 7 < (segN d.blocks : Int) := by omega
  have hlI : 14 < (ws.length : Int) := by omega
  obtain ⟨A1, c1, rfl, _, _⟩ := hda.blocks.form
  obtain ⟨A2, c2, rfl, _, _⟩ := hda.walk.form
  have hw0 : Below w.heap.size w (w.alloc (.cells #[.int .i64 d.law.piece, .int .i64 d.law.drive, .int .i64 d.law.spread, .int .i64 d.law.brk, .int .i64 d.law.on, .int .i64 d.law.off, .int .i64 d.law.least, .int .i64 d.law.pieces, .slice A1 d.blocks.length c1, .slice A2 d.walk.length c2] 27)) := (Below.refl _ _).alloc (Nat.le_refl _) _
  have G0 := Lib.hid (heap_alloc_new w (.cells #[.int .i64 d.law.piece, .int .i64 d.law.drive, .int .i64 d.law.spread, .int .i64 d.law.brk, .int .i64 d.law.on, .int .i64 d.law.off, .int .i64 d.law.least, .int .i64 d.law.pieces, .slice A1 d.blocks.length c1, .slice A2 d.walk.length c2] 27 (0, 0)))
  have Hda := Lib.hid hda

  clear hda
  go_enter Try.func3, Try.ntmps3
  have gc := box_cells G0.out
  have gf := box_frozen G0.out
  go_wp2_with fail
  refine (Gives.to Hr.out (ready_any d _ _ _ (Hda.out.below hw0))).mono ?_
  rintro e w1 ⟨rfl, hb1⟩
  have hw1 := hw0.trans (hb1.mono hw0.size)
  have G1 := Lib.hid (box_step hb1 G0.out)
  replace gc := box_cells G1.out
  replace gf := box_frozen G1.out
  go_wp2_with fail
  refine (Segments_any d _ _ _ (Hda.out.below hw1) hm).mono ?_
  rintro e w2 ⟨rfl, hb2⟩
  have hw2 := hw1.trans (hb2.mono hw1.size)
  have G2 := Lib.hid (box_step hb2 G1.out)
  replace gc := box_cells G2.out
  replace gf := box_frozen G2.out
  go_wp2_with fail
  refine (wakes_any _).mono ?_
  rintro e w3 ⟨rfl, hb3⟩
  have hw3 := hw2.trans (hb3.mono hw2.size)
  have G3 := Lib.hid (box_step hb3 G2.out)
  replace gc := box_cells G3.out
  replace gf := box_frozen G3.out
  go_wp2
  go_ret
  exact ⟨rfl, hw3⟩
set_option maxRecDepth 100000 in
set_option maxHeartbeats 6400000 in
theorem Proved_light (d : DDay) (u z v : Value) (ws : List Int) (x : Nat) (w : World) (hda : DayAt w u z d) (hv : NumsAt .i64 w v ws) (hx : x < 65536) (hr : readyB d = true) (hs : segN d.blocks ≤ 7) (hl : ws.length ≤ 14) :
    Calls Try.prog 3 #[.agg #[.int .i64 d.law.piece, .int .i64 d.law.drive, .int .i64 d.law.spread, .int .i64 d.law.brk, .int .i64 d.law.on, .int .i64 d.law.off, .int .i64 d.law.least, .int .i64 d.law.pieces, u, z], v, .int .u16 (x : Int)] w (Gives w (.bool true)) := by
  obtain ⟨AW, cW, rfl, _, _⟩ := hv.form
  have Hv := Lib.hid hv
  clear hv
  obtain ⟨_, hm, hf, hf0⟩ := ready_ok hr
  have hd := fault_ok hf
  have hE := bound_err hf ws
  have hBB := fun (h0 : (boundQ d ws).2 = 0) (hc : (bestV d).can = true) => bound_best hd ws h0 hc
  have hAB := apart_bound hf x
  have hAL := fun (hc : (bestV d).can = true) => bound_best hd (apartL d x (segN d.blocks)) (by rw [hAB]) hc
  rw [hAB] at hAL
  have HBB := Lib.hid hBB
  have HAB := Lib.hid hAB
  have HAL := Lib.hid hAL
  have HE := Lib.hid hE
  have Hd := Lib.hid hd
  have Hf := Lib.hid hf
  have Hr := Lib.hid hr
  have hN : 2 ^ segN d.blocks ≤ 128 := Nat.pow_le_pow_right (n := 2) (by omega) hs
  have hN1 := Nat.two_pow_pos (segN d.blocks)
  have hsI : ¬ 7 < (segN d.blocks : Int) := by omega
  have hlI : ¬ 14 < (ws.length : Int) := by omega
  obtain ⟨i0, hi0, hz0, hz1, hz2⟩ := info_parts infoI
  clear hr hd hf hf0 hE hBB hAB hAL
  obtain ⟨A1, c1, rfl, _, _⟩ := hda.blocks.form
  obtain ⟨A2, c2, rfl, _, _⟩ := hda.walk.form
  have hw0 : Below w.heap.size w (w.alloc (.cells #[.int .i64 d.law.piece, .int .i64 d.law.drive, .int .i64 d.law.spread, .int .i64 d.law.brk, .int .i64 d.law.on, .int .i64 d.law.off, .int .i64 d.law.least, .int .i64 d.law.pieces, .slice A1 d.blocks.length c1, .slice A2 d.walk.length c2] 27)) := (Below.refl _ _).alloc (Nat.le_refl _) _
  have G0 := Lib.hid (heap_alloc_new w (.cells #[.int .i64 d.law.piece, .int .i64 d.law.drive, .int .i64 d.law.spread, .int .i64 d.law.brk, .int .i64 d.law.on, .int .i64 d.law.off, .int .i64 d.law.least, .int .i64 d.law.pieces, .slice A1 d.blocks.length c1, .slice A2 d.walk.length c2] 27 (0, 0)))
  have Hda := Lib.hid hda

  clear hda
  go_enter Try.func3, Try.ntmps3
  have gc := box_cells G0.out
  have gf := box_frozen G0.out
  go_wp2_with fail
  refine (Gives.to Hr.out (ready_any d _ _ _ (Hda.out.below hw0))).mono ?_
  rintro e w1 ⟨rfl, hb1⟩
  have hw1 := hw0.trans (hb1.mono hw0.size)
  have G1 := Lib.hid (box_step hb1 G0.out)
  replace gc := box_cells G1.out
  replace gf := box_frozen G1.out
  go_wp2_with fail
  refine (Segments_any d _ _ _ (Hda.out.below hw1) hm).mono ?_
  rintro e w2 ⟨rfl, hb2⟩
  have hw2 := hw1.trans (hb2.mono hw1.size)
  have G2 := Lib.hid (box_step hb2 G1.out)
  replace gc := box_cells G2.out
  replace gf := box_frozen G2.out
  go_wp2_with fail
  refine (DayC_any d _ _ _ (Hda.out.below hw2) hm).mono ?_
  rintro e w3 ⟨B13, B23, e13, e23, rfl, hd3, hb3⟩
  have hw3 := hw2.trans (hb3.mono hw2.size)
  have G3 := Lib.hid (box_step hb3 G2.out)
  replace gc := box_cells G3.out
  replace gf := box_frozen G3.out
  go_wp2_with fail
  refine (Best1_any d _ _ _ hd3 hm Hf.out).mono ?_
  rintro e w4 ⟨AP, cP, rfl, hP, hb4⟩
  have hw4 := hw3.trans (hb4.mono hw3.size)
  have G4 := Lib.hid (box_step hb4 G3.out)
  replace gc := box_cells G4.out
  replace gf := box_frozen G4.out
  clear hP hd3
  go_wp2_with fail
  refine (DayC_any d _ _ _ (Hda.out.below hw4) hm).mono ?_
  rintro e w5 ⟨B15, B25, e15, e25, rfl, hd5, hb5⟩
  have hw5 := hw4.trans (hb5.mono hw4.size)
  have G5 := Lib.hid (box_step hb5 G4.out)
  replace gc := box_cells G5.out
  replace gf := box_frozen G5.out
  have Hv5 := Lib.hid (Hv.out.below hw5)
  go_wp2_with fail
  refine (copy_any _ _ _ Hv5.out (by omega)).mono ?_
  rintro e w6 ⟨AC, cC, rfl, hoC, hb6⟩
  have hw6 := hw5.trans (hb6.mono hw5.size)
  have G6 := Lib.hid (box_step hb6 G5.out)
  replace gc := box_cells G6.out
  replace gf := box_frozen G6.out
  have HC := Lib.hid (nums_of_own hoC)
  clear hoC
  go_wp2_with fail
  refine (Bound_any d _ _ _ ws _ (hd5.below hb6) hm HC.out).mono ?_
  rintro e w7 ⟨rfl, hb7⟩
  have hw7 := hw6.trans (hb7.mono hw6.size)
  have G7 := Lib.hid (box_step hb7 G6.out)
  replace gc := box_cells G7.out
  replace gf := box_frozen G7.out
  clear HC Hv5 hd5
  obtain ⟨Q1, hQ1⟩ : ∃ Q, (boundQ d ws).1 = Q := ⟨_, rfl⟩
  obtain ⟨Q2, hQ2⟩ : ∃ Q, (boundQ d ws).2 = Q := ⟨_, rfl⟩
  obtain ⟨EE, hEE⟩ : ∃ Q, bestE d = Q := ⟨_, rfl⟩
  obtain ⟨PL, hPL⟩ : ∃ Q, bestLen d = Q := ⟨_, rfl⟩
  obtain ⟨PP, hPP⟩ : ∃ Q, bestPay d = Q := ⟨_, rfl⟩
  rw [hQ1, hQ2] at HBB
  rw [hQ2] at HE
  simp only [hQ1, hQ2, hEE, hPL, hPP]
  have hcE : ((bestV d).can = true ∧ EE = 0 ∧ PL = (bestP d).length) ∨ ((bestV d).can = false ∧ EE = 9 ∧ PL = 0) := by
    subst hEE hPL
    unfold bestE bestLen
    cases (bestV d).can with
    | true => left; exact ⟨rfl, rfl, rfl⟩
    | false => right; exact ⟨rfl, rfl, rfl⟩
  have HcE := Lib.hid hcE
  clear hQ1 hQ2 hEE hPL hPP hcE
  go_upto_region 5 with (fail)
  go_cut [75] from 52 to 74 (fun z wx => z = .bool false ∧ wx = w7)
  case first =>
    have hE := HE.out
    have hcE := HcE.out
    have hBB := HBB.out
    rcases hcE with ⟨h1, rfl, h3⟩ | ⟨h1, rfl, h3⟩
    · rcases hE with rfl | rfl | rfl
      · have hle := hBB rfl h1
        rw [← h3] at hle
        have hq : decide ((PL : Int) < Q1) = false := by simp; omega
        clear HE HcE HBB h1 h3 hBB hle
        go_wp2
        go_meet
        case rel => exact ⟨rfl, rfl⟩
      · clear HE HcE HBB h1 h3 hBB
        go_wp2
        go_meet
        case rel => exact ⟨rfl, rfl⟩
      · clear HE HcE HBB h1 h3 hBB
        go_wp2
        go_meet
        case rel => exact ⟨rfl, rfl⟩
    · clear HcE HBB h1 h3 hBB
      rcases hE with rfl | rfl | rfl
      · clear HE
        go_wp2
        go_meet
        case rel => exact ⟨rfl, rfl⟩
      · clear HE
        go_wp2
        go_meet
        case rel => exact ⟨rfl, rfl⟩
      · clear HE
        go_wp2
        go_meet
        case rel => exact ⟨rfl, rfl⟩
  case rest =>
    obtain ⟨rfl, rfl⟩ := hcut
    go_wp2_with fail
    refine (Segments_any d _ _ _ (Hda.out.below hw7) hm).mono ?_
    rintro e w8 ⟨rfl, hb8⟩
    have hw8 := hw7.trans (hb8.mono hw7.size)
    have G8 := Lib.hid (box_step hb8 G7.out)
    replace gc := box_cells G8.out
    replace gf := box_frozen G8.out
    have hsg : w.heap.size < w8.heap.size := (Array.getElem?_eq_some_iff.1 G8.out).1
    go_wp2_with (at_make; refine wpList_make_full _ rfl _ _ 28 rfl w8.heap.size 3 i0 _ 1 Try.underlying28 hi0 hz0 hz1 _ _ _ _ (segN d.blocks) rfl rfl rfl rfl (by rw [hz2]; omega) (by simp [maxLen]; omega) (Nat.le_refl _) ?_; intro wm hownm hgm; have hbm : Below w8.heap.size w8 wm := (Below.refl _ _).grown hgm (Nat.le_refl _) (by simp); have Hownm := Lib.hid hownm; clear hownm hgm)
    have hmade : (madeCells (Value.int .i64 0).cells (segN d.blocks * 1)).toList = (apartL d x 0).map (.int .i64) := by
      rw [apart_zero, Nat.mul_one, List.map_replicate]
      exact toList_madeCells_one _ _
    have hbk := block_own Hownm.out
    rw [hmade] at hbk
    have Hbk := Lib.hid hbk
    clear hbk hmade Hownm
    generalize hg : w8.heap.size = g at *
    have Hg := Lib.hid hg
    clear hg
    go_loopw [13, 14] (fun c i wr => ∃ k : Nat, k ≤ segN d.blocks ∧ i = .int .i64 k ∧ c = .int .i64 ((markL d x k).length : Int) ∧ Below g w8 wr ∧ wr.heap[g]? = some (.cells ((apartL d x k).map (.int .i64)).toArray 3 (0, 0))) (fun c i wr => segN d.blocks - (intOf i).toNat)
    case atStart => exact ⟨0, by omega, rfl, rfl, hbm, Hbk.out⟩
    case round =>
      obtain ⟨k, hk, rfl, rfl, hbr, hgk⟩ := hrel
      obtain ⟨wo, rfl⟩ : ∃ wo : World, wo = wr := ⟨_, rfl⟩
      have hbo : Below w8.heap.size w8 wo := by rw [Hg.out]; exact hbr
      have hwo := hw8.trans (hbo.mono hw8.size)
      have Go := Lib.hid (box_step hbo G8.out)
      replace gc := box_cells Go.out
      replace gf := box_frozen Go.out
      have Hgk := Lib.hid hgk
      have hml := mark_len (d := d) (x := x) (k := k)
      clear hgk
      by_cases hlt : k < segN d.blocks
      · skip
        have Hst := Lib.hid (mark_step d x k)
        have Hay := Lib.hid (fun h => apart_step (d := d) (x := x) (k := k) h)
        have Han := Lib.hid (fun h => apart_same (d := d) (x := x) (k := k) h)
        have Hlt := Lib.hid (fun j (hj : j ∈ markL d x k) => (mem_mark.1 hj).1)
        have Hap := Lib.hid (fun j (hj : j < segN d.blocks) => apart_get (d := d) (x := x) (k := k) hj)
        have hbit := set_bit x k
        have qw := wrap_pow (m := segN d.blocks) (by omega)
        have hkI : (k : Int) < (segN d.blocks : Int) := by omega
        have Hfs := Lib.hid (show fitsS d x k (markL d x k) = fitsTo d x k (markL d x k) (2 ^ segN d.blocks) from rfl)
        have Hf1 := Lib.hid (show fitsTo d x k (markL d x k) 1 = x.testBit k by unfold fitsTo; simp [List.range_succ])
        have Hfle := Lib.hid (fun X (h : fitsTo d x k (markL d x k) X = false) (hX : X ≤ 2 ^ segN d.blocks) => fitsTo_le h hX)
        have Hfsu := Lib.hid (fun X => fitsTo_succ d x k (markL d x k) X)
        generalize markL d x k = M at *

        go_wp2
        go_loopw [15, 16] (fun f s wr => ∃ X : Nat, 1 ≤ X ∧ X ≤ 2 ^ segN d.blocks ∧ s = .int .u16 (X : Int) ∧ f = .bool (fitsTo d x k M X) ∧ Below wo.heap.size wo wr) (fun f s wr => 2 ^ segN d.blocks - (intOf s).toNat)
        case atStart => exact ⟨1, by omega, by omega, rfl, by rw [Hf1.out], Below.refl _ _⟩
        case round =>
          obtain ⟨X, hX1, hX2, rfl, rfl, hbr2⟩ := hrel
          obtain ⟨wp, rfl⟩ : ∃ wp : World, wp = wr := ⟨_, rfl⟩
          have hwp := hwo.trans (hbr2.mono hwo.size)
          have Gp := Lib.hid (box_step hbr2 Go.out)
          replace gc := box_cells Gp.out
          replace gf := box_frozen Gp.out
          have Hgp := Lib.hid (box_step hbr2 Hgk.out)
          by_cases hXlt : X < 2 ^ segN d.blocks
          · cases hfi : fitsTo d x k M X with
            | true =>
              have hXI : (X : Int) < ((2 ^ segN d.blocks : Nat) : Int) := by omega
              have Hfi := Lib.hid hfi
              have Hse := Lib.hid (setL_bits hXlt (by omega))
              have Hsd := Lib.hid (isDuty_bits hXlt (by omega))
              have hsl := duty_len Hsd.out
              have Hhas := Lib.hid (fun j (hj : j < segN d.blocks) => has_bitsL (X := X) hj)
              have Hlx := Lib.hid (show legalL d (bitsL (segN d.blocks) X) = legalX d X from rfl)
              have Hsu := Lib.hid (Hfsu.out X)
              have hX0 : (X == 0) = false := by simp; omega
              have HX0 := Lib.hid hX0
              clear hfi hX0
              go_wp2_with fail
              refine (Set_any d _ _ X _ (Hda.out.below hwp) hm (by omega) (by omega)).mono ?_
              rintro e w9 ⟨AS, cS, rfl, hoS, hb9⟩
              have hw9 := hwp.trans (hb9.mono hwp.size)
              have G9 := Lib.hid (box_step hb9 Gp.out)
              replace gc := box_cells G9.out
              replace gf := box_frozen G9.out
              rw [Hse.out] at hoS ⊢
              generalize bitsL (segN d.blocks) X = U at *
              have HS := Lib.hid (nums_of_own hoS)
              have hUl := natsI_len U
              rw [hUl] at HS ⊢
              clear hoS hUl
              cases hXs : X.testBit k with
              | false =>
                have Hno := Lib.hid ((Hhas.out k hlt).trans hXs)
                rw [hXs] at Hsu
                clear hXs
                go_wp2_with (go_at_call 19; refine (Same.to Hno.out (Has_any _ _ _ _ HS.out)).mono ?_; rintro e wh ⟨rfl, rfl⟩)
                go_roundw
                case rel => exact ⟨X + 1, by omega, by omega, by push_cast; rfl, by rw [Hsu.out, Hfi.out]; simp, hbr2.trans (hb9.mono hbr2.size)⟩
                case measure => simp [intOf]; omega
              | true =>
                have Hno := Lib.hid ((Hhas.out k hlt).trans hXs)
                rw [hXs] at Hsu
                clear hXs
                go_wp2_with fail
                refine (Same.to Hno.out (Has_any _ _ _ _ HS.out)).mono ?_
                rintro e wh ⟨rfl, rfl⟩
                go_wp2_with fail
                refine (DayC_any d _ _ _ (Hda.out.below hw9) hm).mono ?_
                rintro e w10 ⟨B110, B210, e110, e210, rfl, hd10, hb10⟩
                have hw10 := hw9.trans (hb10.mono hw9.size)
                have G10 := Lib.hid (box_step hb10 G9.out)
                replace gc := box_cells G10.out
                replace gf := box_frozen G10.out
                have HSb := Lib.hid (HS.out.below hb10)
                go_wp2_with fail
                refine (copy_any _ (natsI U) _ HSb.out (by rw [natsI_len]; omega)).mono ?_
                rintro e w11 ⟨AC2, cC2, rfl, hoC, hb11⟩
                have hw11 := hw10.trans (hb11.mono hw10.size)
                have G11 := Lib.hid (box_step hb11 G10.out)
                replace gc := box_cells G11.out
                replace gf := box_frozen G11.out
                have HC := Lib.hid (nums_of_own hoC)
                clear hoC
                go_wp2_with fail
                refine (LegalS_any d _ _ _ U _ (hd10.below hb11) hm Hf.out HC.out Hsd.out).mono ?_
                rintro e w12 ⟨rfl, hb12⟩
                have hw12 := hw11.trans (hb12.mono hw11.size)
                have G12 := Lib.hid (box_step hb12 G11.out)
                replace gc := box_cells G12.out
                replace gf := box_frozen G12.out
                rw [Hlx.out]
                have hbz := hb9.trans ((hb10.trans ((hb11.trans (hb12.mono hb11.size)).mono hb10.size)).mono hb9.size)
                have HS4 := Lib.hid (HS.out.below (hb10.trans ((hb11.trans (hb12.mono hb11.size)).mono hb10.size)))
                have Hge := Lib.hid (box_step hbz Hgp.out)
                have hA4 := nums_block Hge.out (apart_len d x k) (by rw [apart_len]; simp [maxLen]; omega)
                have HA4 := Lib.hid hA4
                have hbz2 := hbr2.trans (hbz.mono hbr2.size)
                clear hA4 HS HSb HC hd10
                generalize legalX d X = L at *
                cases L with
                | false =>
                  go_wp2
                  go_loop [15, 20] (fun f j => f = .bool true ∧ j = .int .i64 0) (fun f j => 0)
                  case atStart => exact ⟨rfl, rfl⟩
                  case round =>
                    obtain ⟨rfl, rfl⟩ := hrel
                    by_cases hk0 : 0 < k
                    · have q0 : (0 : Int) < (k : Int) := by omega
                      go_wp2
                      go_roundw
                      case rel => exact ⟨X + 1, by omega, by omega, by push_cast; rfl, by rw [Hsu.out, Hfi.out]; simp, hbz2⟩
                      case measure => simp [intOf]; omega
                    · have q0 : decide ((0 : Int) < (k : Int)) = false := by simp; omega
                      have q0N : decide (0 < k) = false := by simp; omega
                      go_wp2
                      go_roundw
                      case rel => exact ⟨X + 1, by omega, by omega, by push_cast; rfl, by rw [Hsu.out, Hfi.out]; simp, hbz2⟩
                      case measure => simp [intOf]; omega
                | true =>
                  go_wp2
                  go_loop [15, 20] (fun f j => ∃ i : Nat, i ≤ k ∧ j = .int .i64 i ∧ f = .bool (freeTo M X i)) (fun f j => k - (intOf j).toNat)
                  case atStart => exact ⟨0, by omega, rfl, by first | (rw [Hfi.out]; rfl) | rfl⟩
                  case round =>
                    obtain ⟨i, hi, rfl, rfl⟩ := hrel
                    have Hfr := Lib.hid (freeTo_succ M X i)
                    by_cases hik : i < k
                    · have hikI : (i : Int) < (k : Int) := by omega
                      have hinI : (i : Int) < (segN d.blocks : Int) := by omega
                      cases hfr : freeTo M X i with
                      | false =>
                        have Hfr0 := Lib.hid hfr
                        clear hfr
                        go_wp2
                        go_round
                        case rel => exact ⟨i + 1, by omega, by go_num, by rw [Hfr.out, Hfr0.out]; rfl⟩
                        case measure => simp [intOf]; omega
                      | true =>
                        obtain ⟨b5, o5, y5, e5, hy5, cy5, _⟩ := HA4.out.at_ (k := i) (by rw [apart_len]; omega)
                        cases e5
                        rw [Nat.zero_add] at cy5
                        have hyv := Hap.out i (by omega)
                        rw [hy5, Option.getD_some] at hyv
                        have Hfr0 := Lib.hid hfr
                        clear hfr hy5
                        by_cases hiM : i ∈ M
                        · rw [if_pos hiM] at hyv
                          subst hyv
                          have HiM := Lib.hid hiM
                          cases hXi : X.testBit i with
                          | true =>
                            have Hh := Lib.hid ((Hhas.out i (by omega)).trans hXi)
                            have HXi := Lib.hid hXi
                            clear hXi hiM
                            go_wp2_with (go_at_call 19; refine (Same.to Hh.out (Has_any _ _ _ _ HS4.out)).mono ?_; rintro e wh ⟨rfl, rfl⟩)
                            go_round
                            case rel => exact ⟨i + 1, by omega, by go_num, by rw [Hfr.out, HXi.out, decide_eq_true HiM.out]; simp⟩
                            case measure => simp [intOf]; omega
                          | false =>
                            have Hh := Lib.hid ((Hhas.out i (by omega)).trans hXi)
                            have HXi := Lib.hid hXi
                            clear hXi hiM
                            go_wp2_with (go_at_call 19; refine (Same.to Hh.out (Has_any _ _ _ _ HS4.out)).mono ?_; rintro e wh ⟨rfl, rfl⟩)
                            go_round
                            case rel => exact ⟨i + 1, by omega, by go_num, by rw [Hfr.out, HXi.out, Hfr0.out]; simp⟩
                            case measure => simp [intOf]; omega
                        · rw [if_neg hiM] at hyv
                          subst hyv
                          have HiM := Lib.hid hiM
                          clear hiM
                          go_wp2
                          go_round
                          case rel => exact ⟨i + 1, by omega, by go_num, by rw [Hfr.out, Hfr0.out, decide_eq_false HiM.out]; simp⟩
                          case measure => simp [intOf]; omega
                    · obtain rfl : i = k := by omega
                      have hikI : ¬ (i : Int) < (i : Int) := by omega
                      have Hfa := Lib.hid (freeTo_all (X := X) Hlt.out)
                      generalize freeTo M X i = FF at *
                      go_wp2
                      go_roundw
                      case rel => exact ⟨X + 1, by omega, by omega, by push_cast; rfl, by rw [Hsu.out, Hfi.out, ← Hfa.out, HX0.out]; simp, hbz2⟩
                      case measure => simp [intOf]; omega
            | false =>
              have hXI : (X : Int) < ((2 ^ segN d.blocks : Nat) : Int) := by omega
              have hfin := Hfs.out.trans (Hfle.out X hfi hX2)
              have Hfin := Lib.hid hfin
              clear hfi hfin
              go_wp2
              go_roundw
              case rel => exact ⟨k + 1, by omega, by go_num, by rw [Hst.out, Hfin.out]; simp, (by rw [← Hg.out] at hbr ⊢; exact hbr.trans (hbr2.mono hbr.size)), by rw [Han.out Hfin.out]; exact Hgp.out⟩
              case measure => simp [intOf]; omega
          · obtain rfl : X = 2 ^ segN d.blocks := by omega
            have hXI : decide (((2 ^ segN d.blocks : Nat) : Int) < ((2 ^ segN d.blocks : Nat) : Int)) = false := by simp
            cases hfi : fitsTo d x k M (2 ^ segN d.blocks) with
            | false =>
              have hfin := Hfs.out.trans hfi
              have Hfin := Lib.hid hfin
              clear hfi hfin
              go_wp2
              go_roundw
              case rel => exact ⟨k + 1, by omega, by go_num, by rw [Hst.out, Hfin.out]; simp, (by rw [← Hg.out] at hbr ⊢; exact hbr.trans (hbr2.mono hbr.size)), by rw [Han.out Hfin.out]; exact Hgp.out⟩
              case measure => simp [intOf]; omega
            | true =>
              have hfin := Hfs.out.trans hfi
              have Hfin := Lib.hid hfin
              have gg := box_cells Hgp.out k
              have hgk2 : (((apartL d x k).map (Value.int .i64)).toArray)[k]? = some (.int .i64 ((apartL d x k)[k]?.getD 0)) := by
                rw [List.getElem?_toArray, List.getElem?_map, List.getElem?_eq_getElem (by rw [apart_len]; exact hlt)]
                rfl
              rw [hgk2] at gg
              have gf2 := box_frozen Hgp.out k
              clear hfi hfin hgk2
              go_wp2
              go_roundw
              case rel =>
                refine ⟨k + 1, by omega, by go_num, by rw [Hst.out, Hfin.out]; simp, ?_, ?_⟩
                · have hb3 : Below g w8 wp := by rw [← Hg.out] at hbr ⊢; exact hbr.trans (hbr2.mono hbr.size)
                  exact hb3.setCell (p := ⟨g, k, none⟩) (Nat.le_refl _) _
                · rw [Hay.out Hfin.out]
                  have := blk_set Hgp.out (o := k) (.int .i64 1000)
                  simpa [List.map_set] using this
              case measure => simp [intOf]; omega
      · obtain rfl : k = segN d.blocks := by omega
        have hkI : ¬ (segN d.blocks : Int) < (segN d.blocks : Int) := by omega
        go_wp2_with fail
        refine (DayC_any d _ _ _ (Hda.out.below hwo) hm).mono ?_
        rintro e w9 ⟨B19, B29, e19, e29, rfl, hd9, hb9⟩
        have hw9 := hwo.trans (hb9.mono hwo.size)
        have G9 := Lib.hid (box_step hb9 Go.out)
        replace gc := box_cells G9.out
        replace gf := box_frozen G9.out
        have Hgz := Lib.hid (box_step hb9 Hgk.out)
        have hAz := nums_block Hgz.out (apart_len d x (segN d.blocks)) (by rw [apart_len]; simp [maxLen]; omega)
        go_wp2_with fail
        refine (Bound_any d _ _ _ _ _ hd9 hm hAz).mono ?_
        rintro e w10 ⟨rfl, hb10⟩
        have hw10 := hw9.trans (hb10.mono hw9.size)
        have G10 := Lib.hid (box_step hb10 G9.out)
        replace gc := box_cells G10.out
        replace gf := box_frozen G10.out
        rw [HAB.out]
        have hAL := HAL.out
        have hcE := HcE.out
        clear hAz hd9 HAB HAL
        generalize (markL d x (segN d.blocks)).length = ML at *
        rcases hcE with ⟨h1, rfl, h3⟩ | ⟨h1, rfl, h3⟩
        · have hle := hAL h1
          try simp only at hle
          rw [← h3] at hle
          have hq : decide ((ML : Int) ≤ (PL : Int)) = true := by simp; omega
          have hqN : decide (ML ≤ PL) = true := by simp; omega
          clear hAL h1 h3 hle HcE HBB
          go_wp2_with fail
          refine (wakes_any _).mono ?_
          rintro e w11 ⟨rfl, hb11⟩
          have hw11 := hw10.trans (hb11.mono hw10.size)
          have G11 := Lib.hid (box_step hb11 G10.out)
          replace gc := box_cells G11.out
          replace gf := box_frozen G11.out
          go_wp2
          go_ret
          exact ⟨rfl, hw11⟩
        · clear hAL h1 h3 HcE HBB
          go_wp2_with fail
          refine (wakes_any _).mono ?_
          rintro e w11x ⟨rfl, hb11x⟩
          have hw11x := hw10.trans (hb11x.mono hw10.size)
          have G11x := Lib.hid (box_step hb11x G10.out)
          replace gc := box_cells G11x.out
          replace gf := box_frozen G11x.out
          go_wp2
          go_ret
          exact ⟨rfl, hw11x⟩
theorem Proved_law (d : DDay) (u z v : Value) (ws : List Int) (x : Nat) (w : World) (hda : DayAt w u z d) (hv : NumsAt .i64 w v ws) (hx : x < 65536) :
    Calls Try.prog 3 #[.agg #[.int .i64 d.law.piece, .int .i64 d.law.drive, .int .i64 d.law.spread, .int .i64 d.law.brk, .int .i64 d.law.on, .int .i64 d.law.off, .int .i64 d.law.least, .int .i64 d.law.pieces, u, z], v, .int .u16 (x : Int)] w (Gives w (.bool true)) := by
  cases hr : readyB d with
  | false => exact Proved_dark_a d u z v ws x w hda hv hx hr
  | true =>
    by_cases hs : 7 < segN d.blocks
    · exact Proved_dark_b d u z v ws x w hda hv hx hr hs
    · by_cases hl : 14 < ws.length
      · exact Proved_dark_c d u z v ws x w hda hv hx hr (by omega) hl
      · exact Proved_light d u z v ws x w hda hv hx hr (by omega) (by omega)
end Go.Proofs.Ytllobkhdeahgpaa
