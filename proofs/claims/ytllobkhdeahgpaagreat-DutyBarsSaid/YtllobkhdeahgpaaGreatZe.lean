import Derived.Test.YtllobkhdeahgpaaGreatZd
import Derived.Test.YtllobkhdeahgpaaGreatZa
import Derived.Test.YtllobkhdeahgpaaGreatE2
set_option linter.unusedVariables false
set_option linter.unusedSimpArgs false
namespace Go.Proofs.YtllobkhdeahgpaaGreat
open Go Go.Proofs Go.RowKit

/-! ### DutyBounds -/
theorem heavy_fair (d : DDay) (ws : List Int) : ((legalDs d).all fun l => decide (wgL ws l ≤ 1000)) = fairK d ws (2 ^ segN d.blocks) := by
  rw [Bool.eq_iff_iff]
  constructor
  · intro h
    refine fairK_of fun x hx h0 hl => ?_
    have := List.all_eq_true.1 h _ (mem_legalDs.2 ⟨x, h0, hx, rfl, hl⟩)
    simpa [wgX] using this
  · intro h
    refine List.all_eq_true.2 fun l hl => ?_
    obtain ⟨x, h0, hx, rfl, hlx⟩ := mem_legalDs.1 hl
    have := fairK_all h hx h0 hlx
    simpa [wgX] using this
theorem sum_full (d : DDay) {ws : List Int} (h : ws.length = segN d.blocks) : wgX d ws (fullM (segN d.blocks)) = sumL ws := by
  rw [wgX_wt, wt_full, ← h, sumR_list, sumL_D]
/-- What is wanted behind the first k duties. -/
def wK (d : DDay) (ws : List Int) (k : Nat) : Int := if ((legalDs d).take k).all fun l => decide (wgL ws l ≤ 1000) then 0 else 9
theorem wK_step {d : DDay} {ws : List Int} {k : Nat} {l : List Nat} (h : (legalDs d)[k]? = some l) : wK d ws (k + 1) = if wgL ws l ≤ 1000 then wK d ws k else 9 := by
  have hk := (List.getElem?_eq_some_iff.1 h).1
  have e : (legalDs d).take (k + 1) = (legalDs d).take k ++ [l] := by
    rw [List.take_add_one, h]; rfl
  unfold wK
  rw [e, List.all_append]
  by_cases hw : wgL ws l ≤ 1000 <;> simp [hw]
theorem wK_all (d : DDay) (ws : List Int) : wK d ws (legalDs d).length = if fairK d ws (2 ^ segN d.blocks) then 0 else 9 := by
  unfold wK
  rw [List.take_length, heavy_fair]
theorem wK_zero (d : DDay) (ws : List Int) : wK d ws 0 = 0 := by simp [wK]
set_option maxRecDepth 100000 in
set_option maxHeartbeats 800000 in
theorem Bounds_thick (d : DDay) (u z v : Value) (l : List Int) (w : World) (hda : DayAt w u z d) (hv : NumsAt .i64 w v l) (hl : thinD d = false) :
    Calls Tryz.prog 3 #[.agg #[.int .i64 d.law.piece, .int .i64 d.law.drive, .int .i64 d.law.spread, .int .i64 d.law.brk, .int .i64 d.law.on, .int .i64 d.law.off, .int .i64 d.law.least, .int .i64 d.law.pieces, u, z], v] w (Gives w (.bool true)) := by
  obtain ⟨A3, c3, rfl, hc3, hm3⟩ := hv.form
  obtain ⟨A1, c1, rfl, _, _⟩ := hda.blocks.form
  obtain ⟨A2, c2, rfl, _, _⟩ := hda.walk.form
  have hw0 : Below w.heap.size w (w.alloc (.cells #[.int .i64 d.law.piece, .int .i64 d.law.drive, .int .i64 d.law.spread, .int .i64 d.law.brk, .int .i64 d.law.on, .int .i64 d.law.off, .int .i64 d.law.least, .int .i64 d.law.pieces, .slice A1 d.blocks.length c1, .slice A2 d.walk.length c2] 27)) := (Below.refl _ _).alloc (Nat.le_refl _) _
  have G0 := Lib.hid (heap_alloc_new w (.cells #[.int .i64 d.law.piece, .int .i64 d.law.drive, .int .i64 d.law.spread, .int .i64 d.law.brk, .int .i64 d.law.on, .int .i64 d.law.off, .int .i64 d.law.least, .int .i64 d.law.pieces, .slice A1 d.blocks.length c1, .slice A2 d.walk.length c2] 27 (0, 0)))
  have Hda := Lib.hid hda
  have Hl := Lib.hid hl
  clear hl hv
  clear hda
  go_enter Tryz.func3, Tryz.ntmps3
  have gc := box_cells G0.out
  have gf := box_frozen G0.out
  go_wp2_with fail
  refine (Gives.to Hl.out (Thin_any d _ _ _ (Hda.out.below hw0))).mono ?_
  rintro e w1 ⟨rfl, hb1⟩
  have hw1 := hw0.trans (hb1.mono hw0.size)
  have G1 := Lib.hid (box_step hb1 G0.out)
  replace gc := box_cells G1.out
  replace gf := box_frozen G1.out
  go_wp2_with fail
  refine (wakes_any _).mono ?_
  rintro e w2 ⟨rfl, hb2⟩
  have hw2 := hw1.trans (hb2.mono hw1.size)
  have G2 := Lib.hid (box_step hb2 G1.out)
  replace gc := box_cells G2.out
  replace gf := box_frozen G2.out
  go_wp2
  go_ret
  exact ⟨rfl, hw2⟩
set_option maxRecDepth 100000 in
set_option maxHeartbeats 800000 in
theorem Bounds_long (d : DDay) (u z v : Value) (l : List Int) (w : World) (hda : DayAt w u z d) (hv : NumsAt .i64 w v l) (hl : thinD d = true) (hn : 14 < l.length) :
    Calls Tryz.prog 3 #[.agg #[.int .i64 d.law.piece, .int .i64 d.law.drive, .int .i64 d.law.spread, .int .i64 d.law.brk, .int .i64 d.law.on, .int .i64 d.law.off, .int .i64 d.law.least, .int .i64 d.law.pieces, u, z], v] w (Gives w (.bool true)) := by
  obtain ⟨A3, c3, rfl, hc3, hm3⟩ := hv.form
  have hnI : (14 : Int) < (l.length : Int) := by omega
  obtain ⟨A1, c1, rfl, _, _⟩ := hda.blocks.form
  obtain ⟨A2, c2, rfl, _, _⟩ := hda.walk.form
  have hw0 : Below w.heap.size w (w.alloc (.cells #[.int .i64 d.law.piece, .int .i64 d.law.drive, .int .i64 d.law.spread, .int .i64 d.law.brk, .int .i64 d.law.on, .int .i64 d.law.off, .int .i64 d.law.least, .int .i64 d.law.pieces, .slice A1 d.blocks.length c1, .slice A2 d.walk.length c2] 27)) := (Below.refl _ _).alloc (Nat.le_refl _) _
  have G0 := Lib.hid (heap_alloc_new w (.cells #[.int .i64 d.law.piece, .int .i64 d.law.drive, .int .i64 d.law.spread, .int .i64 d.law.brk, .int .i64 d.law.on, .int .i64 d.law.off, .int .i64 d.law.least, .int .i64 d.law.pieces, .slice A1 d.blocks.length c1, .slice A2 d.walk.length c2] 27 (0, 0)))
  have Hda := Lib.hid hda
  have Hl := Lib.hid hl
  clear hl hv
  clear hda
  go_enter Tryz.func3, Tryz.ntmps3
  have gc := box_cells G0.out
  have gf := box_frozen G0.out
  go_wp2_with fail
  refine (Gives.to Hl.out (Thin_any d _ _ _ (Hda.out.below hw0))).mono ?_
  rintro e w1 ⟨rfl, hb1⟩
  have hw1 := hw0.trans (hb1.mono hw0.size)
  have G1 := Lib.hid (box_step hb1 G0.out)
  replace gc := box_cells G1.out
  replace gf := box_frozen G1.out
  go_wp2_with fail
  refine (wakes_any _).mono ?_
  rintro e w2 ⟨rfl, hb2⟩
  have hw2 := hw1.trans (hb2.mono hw1.size)
  have G2 := Lib.hid (box_step hb2 G1.out)
  replace gc := box_cells G2.out
  replace gf := box_frozen G2.out
  go_wp2
  go_ret
  exact ⟨rfl, hw2⟩
set_option maxRecDepth 100000 in
set_option maxHeartbeats 1600000 in
theorem Bounds_many (d : DDay) (u z v : Value) (l : List Int) (w : World) (hda : DayAt w u z d) (hv : NumsAt .i64 w v l) (hl : thinD d = true) (hn : l.length ≤ 14) (hf : faultD d = 0) (hs : 7 < segN d.blocks) :
    Calls Tryz.prog 3 #[.agg #[.int .i64 d.law.piece, .int .i64 d.law.drive, .int .i64 d.law.spread, .int .i64 d.law.brk, .int .i64 d.law.on, .int .i64 d.law.off, .int .i64 d.law.least, .int .i64 d.law.pieces, u, z], v] w (Gives w (.bool true)) := by
  obtain ⟨A3, c3, rfl, hc3, hm3⟩ := hv.form
  have hm := thin_mild hl
  have hnI : ¬ (14 : Int) < (l.length : Int) := by omega
  have hsI : (7 : Int) < (segN d.blocks : Int) := by omega
  have HF := Lib.hid hf
  obtain ⟨A1, c1, rfl, _, _⟩ := hda.blocks.form
  obtain ⟨A2, c2, rfl, _, _⟩ := hda.walk.form
  have hw0 : Below w.heap.size w (w.alloc (.cells #[.int .i64 d.law.piece, .int .i64 d.law.drive, .int .i64 d.law.spread, .int .i64 d.law.brk, .int .i64 d.law.on, .int .i64 d.law.off, .int .i64 d.law.least, .int .i64 d.law.pieces, .slice A1 d.blocks.length c1, .slice A2 d.walk.length c2] 27)) := (Below.refl _ _).alloc (Nat.le_refl _) _
  have G0 := Lib.hid (heap_alloc_new w (.cells #[.int .i64 d.law.piece, .int .i64 d.law.drive, .int .i64 d.law.spread, .int .i64 d.law.brk, .int .i64 d.law.on, .int .i64 d.law.off, .int .i64 d.law.least, .int .i64 d.law.pieces, .slice A1 d.blocks.length c1, .slice A2 d.walk.length c2] 27 (0, 0)))
  have Hda := Lib.hid hda
  have Hl := Lib.hid hl
  clear hl hv hf
  clear hda
  go_enter Tryz.func3, Tryz.ntmps3
  have gc := box_cells G0.out
  have gf := box_frozen G0.out
  go_wp2_with fail
  refine (Gives.to Hl.out (Thin_any d _ _ _ (Hda.out.below hw0))).mono ?_
  rintro e w1 ⟨rfl, hb1⟩
  have hw1 := hw0.trans (hb1.mono hw0.size)
  have G1 := Lib.hid (box_step hb1 G0.out)
  replace gc := box_cells G1.out
  replace gf := box_frozen G1.out
  go_wp2_with fail
  refine (HF.out ▸ FaultR_any d _ _ _ (Hda.out.below hw1) hm).mono ?_
  rintro e w2 ⟨rfl, hb2⟩
  have hw2 := hw1.trans (hb2.mono hw1.size)
  have G2 := Lib.hid (box_step hb2 G1.out)
  replace gc := box_cells G2.out
  replace gf := box_frozen G2.out
  go_wp2_with fail
  refine (Segments_any d _ _ _ (Hda.out.below hw2) hm).mono ?_
  rintro e w3 ⟨rfl, hb3⟩
  have hw3 := hw2.trans (hb3.mono hw2.size)
  have G3 := Lib.hid (box_step hb3 G2.out)
  replace gc := box_cells G3.out
  replace gf := box_frozen G3.out
  go_wp2_with fail
  refine (wakes_any _).mono ?_
  rintro e w4 ⟨rfl, hb4⟩
  have hw4 := hw3.trans (hb4.mono hw3.size)
  have G4 := Lib.hid (box_step hb4 G3.out)
  replace gc := box_cells G4.out
  replace gf := box_frozen G4.out
  go_wp2
  go_ret
  exact ⟨rfl, hw4⟩
set_option maxRecDepth 100000 in
set_option maxHeartbeats 3200000 in
theorem Bounds_fault (d : DDay) (u z v : Value) (l : List Int) (w : World) (hda : DayAt w u z d) (hv : NumsAt .i64 w v l) (hl : thinD d = true) (hn : l.length ≤ 14) (hf : faultD d ≠ 0) :
    Calls Tryz.prog 3 #[.agg #[.int .i64 d.law.piece, .int .i64 d.law.drive, .int .i64 d.law.spread, .int .i64 d.law.brk, .int .i64 d.law.on, .int .i64 d.law.off, .int .i64 d.law.least, .int .i64 d.law.pieces, u, z], v] w (Gives w (.bool true)) := by
  obtain ⟨A3, c3, rfl, hc3, hm3⟩ := hv.form
  have hm := thin_mild hl
  have hnI : ¬ (14 : Int) < (l.length : Int) := by omega
  have HB := Lib.hid (show boundQ d l = (0, faultD d) by unfold boundQ; rw [if_pos (by simpa using hf)])
  generalize hF : faultD d = F at *
  have HF := Lib.hid hF
  clear hF
  have hF0 : (F == 0) = false := by simpa using hf
  have hF1 : (F != 0) = true := by simpa using hf
  have HGB := Lib.hid (show ∀ (u z v : Value) (w' : World), DayAt w' u z d → NumsAt .i64 w' v l → Calls Tryz.prog 13 #[.agg #[.int .i64 d.law.piece, .int .i64 d.law.drive, .int .i64 d.law.spread, .int .i64 d.law.brk, .int .i64 d.law.on, .int .i64 d.law.off, .int .i64 d.law.least, .int .i64 d.law.pieces, u, z], v] w' (Gives w' (.tuple #[.int .i64 0, .int .i64 F])) from by
    intro u z v w' h1 h2
    have h := Bound_any d u z v l w' h1 hm h2
    rw [HB.out] at h
    exact h)
  generalize hLn : l.length = n at *
  have HLn := Lib.hid hLn
  clear hLn
  obtain ⟨A1, c1, rfl, _, _⟩ := hda.blocks.form
  obtain ⟨A2, c2, rfl, _, _⟩ := hda.walk.form
  have hw0 : Below w.heap.size w (w.alloc (.cells #[.int .i64 d.law.piece, .int .i64 d.law.drive, .int .i64 d.law.spread, .int .i64 d.law.brk, .int .i64 d.law.on, .int .i64 d.law.off, .int .i64 d.law.least, .int .i64 d.law.pieces, .slice A1 d.blocks.length c1, .slice A2 d.walk.length c2] 27)) := (Below.refl _ _).alloc (Nat.le_refl _) _
  have G0 := Lib.hid (heap_alloc_new w (.cells #[.int .i64 d.law.piece, .int .i64 d.law.drive, .int .i64 d.law.spread, .int .i64 d.law.brk, .int .i64 d.law.on, .int .i64 d.law.off, .int .i64 d.law.least, .int .i64 d.law.pieces, .slice A1 d.blocks.length c1, .slice A2 d.walk.length c2] 27 (0, 0)))
  have Hda := Lib.hid hda
  have Hl := Lib.hid hl
  have Hv := Lib.hid hv
  clear hl hv
  clear hda
  go_enter Tryz.func3, Tryz.ntmps3
  have gc := box_cells G0.out
  have gf := box_frozen G0.out
  go_wp2_with fail
  refine (Gives.to Hl.out (Thin_any d _ _ _ (Hda.out.below hw0))).mono ?_
  rintro e w1 ⟨rfl, hb1⟩
  have hw1 := hw0.trans (hb1.mono hw0.size)
  have G1 := Lib.hid (box_step hb1 G0.out)
  replace gc := box_cells G1.out
  replace gf := box_frozen G1.out
  go_wp2_with fail
  refine (HF.out ▸ FaultR_any d _ _ _ (Hda.out.below hw1) hm).mono ?_
  rintro e w2 ⟨rfl, hb2⟩
  have hw2 := hw1.trans (hb2.mono hw1.size)
  have G2 := Lib.hid (box_step hb2 G1.out)
  replace gc := box_cells G2.out
  replace gf := box_frozen G2.out
  go_wp2_with fail
  refine (DayC_any d _ _ _ (Hda.out.below hw2) hm).mono ?_
  rintro e w3 ⟨B13, B23, e13, e23, rfl, hd3, hb3⟩
  have hw3 := hw2.trans (hb3.mono hw2.size)
  have G3 := Lib.hid (box_step hb3 G2.out)
  replace gc := box_cells G3.out
  replace gf := box_frozen G3.out
  go_wp2_with fail
  refine (copy_any _ l _ (Hv.out.below hw3) (by rw [HLn.out]; omega)).mono ?_
  rintro e w4 ⟨A44, c44, rfl, ho4, hb4⟩
  have hw4 := hw3.trans (hb4.mono hw3.size)
  have G4 := Lib.hid (box_step hb4 G3.out)
  replace gc := box_cells G4.out
  replace gf := box_frozen G4.out
  have hn4 := nums_of_own (K := .i64) ho4
  have hd3b := hd3.below hb4
  clear ho4
  rw [HLn.out] at hn4 ⊢
  go_wp2_with fail
  refine (HGB.out _ _ _ _ hd3b hn4).mono ?_
  rintro e w5 ⟨rfl, hb5⟩
  have hw5 := hw4.trans (hb5.mono hw4.size)
  have G5 := Lib.hid (box_step hb5 G4.out)
  replace gc := box_cells G5.out
  replace gf := box_frozen G5.out
  clear hd3 hd3b hn4
  go_wp2_with fail
  refine (HF.out ▸ fault_any d _ _ _ (Hda.out.below hw5) hm).mono ?_
  rintro e w6 ⟨rfl, hb6⟩
  have hw6 := hw5.trans (hb6.mono hw5.size)
  have G6 := Lib.hid (box_step hb6 G5.out)
  replace gc := box_cells G6.out
  replace gf := box_frozen G6.out
  go_wp2_with fail
  refine (wakes_any _).mono ?_
  rintro e w7 ⟨rfl, hb7⟩
  have hw7 := hw6.trans (hb7.mono hw6.size)
  have G7 := Lib.hid (box_step hb7 G6.out)
  replace gc := box_cells G7.out
  replace gf := box_frozen G7.out
  go_wp2
  go_ret
  exact ⟨rfl, hw7⟩
set_option maxRecDepth 100000 in
set_option maxHeartbeats 3200000 in
theorem Bounds_range (d : DDay) (u z v : Value) (l : List Int) (w : World) (hda : DayAt w u z d) (hv : NumsAt .i64 w v l) (hl : thinD d = true) (hn : l.length ≤ 14) (hf : faultD d = 0) (hs : segN d.blocks ≤ 7) (hc : capB d l = false) :
    Calls Tryz.prog 3 #[.agg #[.int .i64 d.law.piece, .int .i64 d.law.drive, .int .i64 d.law.spread, .int .i64 d.law.brk, .int .i64 d.law.on, .int .i64 d.law.off, .int .i64 d.law.least, .int .i64 d.law.pieces, u, z], v] w (Gives w (.bool true)) := by
  obtain ⟨A3, c3, rfl, hc3, hm3⟩ := hv.form
  have hm := thin_mild hl
  have hnI : ¬ (14 : Int) < (l.length : Int) := by omega
  have hsI : ¬ (7 : Int) < (segN d.blocks : Int) := by omega
  have HB := Lib.hid (show boundQ d l = (0, 2) by unfold boundQ; rw [if_neg (by rw [hf]; decide), hc]; rfl)
  have HF := Lib.hid hf
  have HC := Lib.hid hc
  clear hf hc
  have HGB := Lib.hid (show ∀ (u z v : Value) (w' : World), DayAt w' u z d → NumsAt .i64 w' v l → Calls Tryz.prog 13 #[.agg #[.int .i64 d.law.piece, .int .i64 d.law.drive, .int .i64 d.law.spread, .int .i64 d.law.brk, .int .i64 d.law.on, .int .i64 d.law.off, .int .i64 d.law.least, .int .i64 d.law.pieces, u, z], v] w' (Gives w' (.tuple #[.int .i64 0, .int .i64 2])) from by
    intro u z v w' h1 h2
    have h := Bound_any d u z v l w' h1 hm h2
    rw [HB.out] at h
    exact h)
  have HLn0 := Lib.hid (show l.length ≤ 1000 by omega)
  generalize hLn : l.length = n at *
  have HLn := Lib.hid hLn
  clear hLn
  obtain ⟨A1, c1, rfl, _, _⟩ := hda.blocks.form
  obtain ⟨A2, c2, rfl, _, _⟩ := hda.walk.form
  have hw0 : Below w.heap.size w (w.alloc (.cells #[.int .i64 d.law.piece, .int .i64 d.law.drive, .int .i64 d.law.spread, .int .i64 d.law.brk, .int .i64 d.law.on, .int .i64 d.law.off, .int .i64 d.law.least, .int .i64 d.law.pieces, .slice A1 d.blocks.length c1, .slice A2 d.walk.length c2] 27)) := (Below.refl _ _).alloc (Nat.le_refl _) _
  have G0 := Lib.hid (heap_alloc_new w (.cells #[.int .i64 d.law.piece, .int .i64 d.law.drive, .int .i64 d.law.spread, .int .i64 d.law.brk, .int .i64 d.law.on, .int .i64 d.law.off, .int .i64 d.law.least, .int .i64 d.law.pieces, .slice A1 d.blocks.length c1, .slice A2 d.walk.length c2] 27 (0, 0)))
  have Hda := Lib.hid hda
  have Hl := Lib.hid hl
  have Hv := Lib.hid hv
  clear hl hv
  clear hda
  go_enter Tryz.func3, Tryz.ntmps3
  have gc := box_cells G0.out
  have gf := box_frozen G0.out
  go_wp2_with fail
  refine (Gives.to Hl.out (Thin_any d _ _ _ (Hda.out.below hw0))).mono ?_
  rintro e w1 ⟨rfl, hb1⟩
  have hw1 := hw0.trans (hb1.mono hw0.size)
  have G1 := Lib.hid (box_step hb1 G0.out)
  replace gc := box_cells G1.out
  replace gf := box_frozen G1.out
  go_wp2_with fail
  refine (HF.out ▸ FaultR_any d _ _ _ (Hda.out.below hw1) hm).mono ?_
  rintro e w2 ⟨rfl, hb2⟩
  have hw2 := hw1.trans (hb2.mono hw1.size)
  have G2 := Lib.hid (box_step hb2 G1.out)
  replace gc := box_cells G2.out
  replace gf := box_frozen G2.out
  go_wp2_with fail
  refine (Segments_any d _ _ _ (Hda.out.below hw2) hm).mono ?_
  rintro e w3 ⟨rfl, hb3⟩
  have hw3 := hw2.trans (hb3.mono hw2.size)
  have G3 := Lib.hid (box_step hb3 G2.out)
  replace gc := box_cells G3.out
  replace gf := box_frozen G3.out
  go_wp2_with fail
  refine (DayC_any d _ _ _ (Hda.out.below hw3) hm).mono ?_
  rintro e w4 ⟨B14, B24, e14, e24, rfl, hd4, hb4⟩
  have hw4 := hw3.trans (hb4.mono hw3.size)
  have G4 := Lib.hid (box_step hb4 G3.out)
  replace gc := box_cells G4.out
  replace gf := box_frozen G4.out
  go_wp2_with fail
  refine (copy_any _ l _ (Hv.out.below hw4) (by rw [HLn.out]; omega)).mono ?_
  rintro e w5 ⟨A45, c45, rfl, ho5, hb5⟩
  have hw5 := hw4.trans (hb5.mono hw4.size)
  have G5 := Lib.hid (box_step hb5 G4.out)
  replace gc := box_cells G5.out
  replace gf := box_frozen G5.out
  have hn5 := nums_of_own (K := .i64) ho5
  have hd4b := hd4.below hb5
  clear ho5
  rw [HLn.out] at hn5 ⊢
  go_wp2_with fail
  refine (HGB.out _ _ _ _ hd4b hn5).mono ?_
  rintro e w6 ⟨rfl, hb6⟩
  have hw6 := hw5.trans (hb6.mono hw5.size)
  have G6 := Lib.hid (box_step hb6 G5.out)
  replace gc := box_cells G6.out
  replace gf := box_frozen G6.out
  clear hd4 hd4b hn5
  go_wp2_with fail
  refine (HF.out ▸ fault_any d _ _ _ (Hda.out.below hw6) hm).mono ?_
  rintro e w7 ⟨rfl, hb7⟩
  have hw7 := hw6.trans (hb7.mono hw6.size)
  have G7 := Lib.hid (box_step hb7 G6.out)
  replace gc := box_cells G7.out
  replace gf := box_frozen G7.out
  go_wp2_with fail
  refine (Gives.to HC.out (RightWeights_ref d _ _ _ l _ (Hda.out.below hw7) hm (Hv.out.below hw7) (by rw [HLn.out]; omega))).mono ?_
  rintro e w8 ⟨rfl, hb8⟩
  have hw8 := hw7.trans (hb8.mono hw7.size)
  have G8 := Lib.hid (box_step hb8 G7.out)
  replace gc := box_cells G8.out
  replace gf := box_frozen G8.out
  go_wp2_with fail
  refine (wakes_any _).mono ?_
  rintro e w9 ⟨rfl, hb9⟩
  have hw9 := hw8.trans (hb9.mono hw8.size)
  have G9 := Lib.hid (box_step hb9 G8.out)
  replace gc := box_cells G9.out
  replace gf := box_frozen G9.out
  go_wp2
  go_ret
  exact ⟨rfl, hw9⟩
set_option maxRecDepth 100000 in
set_option maxHeartbeats 6400000 in
theorem Bounds_fair (d : DDay) (u z v : Value) (l : List Int) (w : World) (hda : DayAt w u z d) (hv : NumsAt .i64 w v l) (hl : thinD d = true) (hn : l.length ≤ 14) (hf : faultD d = 0) (hs : segN d.blocks ≤ 7) (hc : capB d l = true) (hk : fairK d l (2 ^ segN d.blocks) = true) :
    Calls Tryz.prog 3 #[.agg #[.int .i64 d.law.piece, .int .i64 d.law.drive, .int .i64 d.law.spread, .int .i64 d.law.brk, .int .i64 d.law.on, .int .i64 d.law.off, .int .i64 d.law.least, .int .i64 d.law.pieces, u, z], v] w (Gives w (.bool true)) := by
  obtain ⟨A3, c3, rfl, hc3, hm3⟩ := hv.form
  have hm := thin_mild hl
  have hok := fault_ok (show (faultD d != 0) = false by rw [hf]; rfl)
  have hnI : ¬ (14 : Int) < (l.length : Int) := by omega
  have hsI : ¬ (7 : Int) < (segN d.blocks : Int) := by omega
  obtain ⟨hc1, hc2⟩ : l.length = segN d.blocks ∧ ∀ x ∈ l, 0 ≤ x ∧ x ≤ 1000000 := by
    unfold capB at hc
    simp only [Bool.and_eq_true, decide_eq_true_eq, List.all_eq_true] at hc
    exact ⟨hc.1, fun x hx => inB_iff.1 (hc.2 x hx)⟩
  have hS := sumL_small (M := 1000000) (by omega) l hc2
  have HB := Lib.hid (show boundQ d l = ((sumL l + 999) / 1000, 0) by unfold boundQ; rw [if_neg (by rw [hf]; decide), hc, hk, ← sum_full d hc1]; rfl)
  have HWK := Lib.hid (show wK d l (legalDs d).length = 0 by rw [wK_all, hk]; rfl)
  have HF := Lib.hid hf
  have HC := Lib.hid hc
  have Hok := Lib.hid hok
  have HC2 := Lib.hid hc2
  have HLD := legalDs_len (d := d) (by omega)
  have HC1 := Lib.hid hc1
  clear hf hc hk hc2 hok hc1
  have HSt := Lib.hid (show sumL (l.take l.length) = sumL l by rw [List.take_length])
  generalize hSS : sumL l = S at *
  have HSS := Lib.hid hSS
  clear hSS
  have HGB := Lib.hid (show ∀ (u z v : Value) (w' : World), DayAt w' u z d → NumsAt .i64 w' v l → Calls Tryz.prog 13 #[.agg #[.int .i64 d.law.piece, .int .i64 d.law.drive, .int .i64 d.law.spread, .int .i64 d.law.brk, .int .i64 d.law.on, .int .i64 d.law.off, .int .i64 d.law.least, .int .i64 d.law.pieces, u, z], v] w' (Gives w' (.tuple #[.int .i64 ((S + 999) / 1000), .int .i64 0])) from by
    intro u z v w' h1 h2
    have h := Bound_any d u z v l w' h1 hm h2
    rw [HB.out] at h
    exact h)
  generalize hLn : l.length = n at *
  have HLn := Lib.hid hLn
  clear hLn
  obtain ⟨A1, c1, rfl, _, _⟩ := hda.blocks.form
  obtain ⟨A2, c2, rfl, _, _⟩ := hda.walk.form
  have hw0 : Below w.heap.size w (w.alloc (.cells #[.int .i64 d.law.piece, .int .i64 d.law.drive, .int .i64 d.law.spread, .int .i64 d.law.brk, .int .i64 d.law.on, .int .i64 d.law.off, .int .i64 d.law.least, .int .i64 d.law.pieces, .slice A1 d.blocks.length c1, .slice A2 d.walk.length c2] 27)) := (Below.refl _ _).alloc (Nat.le_refl _) _
  have G0 := Lib.hid (heap_alloc_new w (.cells #[.int .i64 d.law.piece, .int .i64 d.law.drive, .int .i64 d.law.spread, .int .i64 d.law.brk, .int .i64 d.law.on, .int .i64 d.law.off, .int .i64 d.law.least, .int .i64 d.law.pieces, .slice A1 d.blocks.length c1, .slice A2 d.walk.length c2] 27 (0, 0)))
  have Hda := Lib.hid hda
  have Hl := Lib.hid hl
  have Hv := Lib.hid hv
  clear hl hv
  clear hda
  go_enter Tryz.func3, Tryz.ntmps3
  have gc := box_cells G0.out
  have gf := box_frozen G0.out
  go_wp2_with fail
  refine (Gives.to Hl.out (Thin_any d _ _ _ (Hda.out.below hw0))).mono ?_
  rintro e w1 ⟨rfl, hb1⟩
  have hw1 := hw0.trans (hb1.mono hw0.size)
  have G1 := Lib.hid (box_step hb1 G0.out)
  replace gc := box_cells G1.out
  replace gf := box_frozen G1.out
  go_wp2_with fail
  refine (HF.out ▸ FaultR_any d _ _ _ (Hda.out.below hw1) hm).mono ?_
  rintro e w2 ⟨rfl, hb2⟩
  have hw2 := hw1.trans (hb2.mono hw1.size)
  have G2 := Lib.hid (box_step hb2 G1.out)
  replace gc := box_cells G2.out
  replace gf := box_frozen G2.out
  go_wp2_with fail
  refine (Segments_any d _ _ _ (Hda.out.below hw2) hm).mono ?_
  rintro e w3 ⟨rfl, hb3⟩
  have hw3 := hw2.trans (hb3.mono hw2.size)
  have G3 := Lib.hid (box_step hb3 G2.out)
  replace gc := box_cells G3.out
  replace gf := box_frozen G3.out
  go_wp2_with fail
  refine (DayC_any d _ _ _ (Hda.out.below hw3) hm).mono ?_
  rintro e w4 ⟨B14, B24, e14, e24, rfl, hd4, hb4⟩
  have hw4 := hw3.trans (hb4.mono hw3.size)
  have G4 := Lib.hid (box_step hb4 G3.out)
  replace gc := box_cells G4.out
  replace gf := box_frozen G4.out
  go_wp2_with fail
  refine (copy_any _ l _ (Hv.out.below hw4) (by rw [HLn.out]; omega)).mono ?_
  rintro e w5 ⟨A45, c45, rfl, ho5, hb5⟩
  have hw5 := hw4.trans (hb5.mono hw4.size)
  have G5 := Lib.hid (box_step hb5 G4.out)
  replace gc := box_cells G5.out
  replace gf := box_frozen G5.out
  have hn5 := nums_of_own (K := .i64) ho5
  have hd4b := hd4.below hb5
  clear ho5
  rw [HLn.out] at hn5 ⊢
  go_wp2_with fail
  refine (HGB.out _ _ _ _ hd4b hn5).mono ?_
  rintro e w6 ⟨rfl, hb6⟩
  have hw6 := hw5.trans (hb6.mono hw5.size)
  have G6 := Lib.hid (box_step hb6 G5.out)
  replace gc := box_cells G6.out
  replace gf := box_frozen G6.out
  clear hd4 hd4b hn5
  go_wp2_with fail
  refine (HF.out ▸ fault_any d _ _ _ (Hda.out.below hw6) hm).mono ?_
  rintro e w7 ⟨rfl, hb7⟩
  have hw7 := hw6.trans (hb7.mono hw6.size)
  have G7 := Lib.hid (box_step hb7 G6.out)
  replace gc := box_cells G7.out
  replace gf := box_frozen G7.out
  go_wp2_with fail
  refine (Gives.to HC.out (RightWeights_ref d _ _ _ l _ (Hda.out.below hw7) hm (Hv.out.below hw7) (by rw [HLn.out]; omega))).mono ?_
  rintro e w8 ⟨rfl, hb8⟩
  have hw8 := hw7.trans (hb8.mono hw7.size)
  have G8 := Lib.hid (box_step hb8 G7.out)
  replace gc := box_cells G8.out
  replace gf := box_frozen G8.out
  go_wp2_with fail
  refine (LegalDuties_any d _ _ _ (Hda.out.below hw8) Hok.out).mono ?_
  rintro e w9 ⟨A5, c5, us, rfl, ho, hro, hb9⟩
  have hw9 := hw8.trans (hb9.mono hw8.size)
  have G9 := Lib.hid (box_step hb9 G8.out)
  replace gc := box_cells G9.out
  replace gf := box_frozen G9.out
  have Hr := Lib.hid (rows_of_own ho hro)
  have HDl := Lib.hid (show ((legalDs d).map natsI).length = (legalDs d).length by simp)
  rw [HDl.out] at Hr ⊢
  clear ho hro
  go_wp2_with fail
  go_loopw [7, 10] (fun x i wr => ∃ k : Nat, k ≤ (legalDs d).length ∧ i = .int .i64 k ∧ x = .int .i64 (wK d l k) ∧ Below w9.heap.size w9 wr) (fun x i wr => (legalDs d).length - (intOf i).toNat)
  case atStart => exact ⟨0, by omega, rfl, by rw [wK_zero], Below.refl _ _⟩
  case round =>
    obtain ⟨k, hk, rfl, rfl, hbr⟩ := hrel
    obtain ⟨wo, rfl⟩ : ∃ wo : World, wo = wr := ⟨_, rfl⟩
    have Go := Lib.hid (box_step hbr G9.out)
    replace gc := box_cells Go.out
    replace gf := box_frozen Go.out
    have hwo := hw9.trans (hbr.mono hw9.size)
    by_cases hlt : k < (legalDs d).length
    · have hq1 : (k : Int) < ((legalDs d).length : Int) := by omega
      obtain ⟨b, o, y, yv, rfl, hy, cy, hny, _⟩ := (Hr.out.below hbr).at_ (k := k) (by rw [HDl.out]; exact hlt)
      rw [List.getElem?_map] at hy
      obtain ⟨D, hD, rfl⟩ := Option.map_eq_some_iff.1 hy
      obtain ⟨x, hx0, hx1, hx2, hx3⟩ := mem_legalDs.1 (List.mem_of_getElem? hD)
      have hlt2 : ∀ s ∈ D, s < l.length := by rw [HLn.out, HC1.out, hx2]; exact fun s hs => (mem_bitsL.1 hs).1
      have hDl : D.length ≤ 1000 := by
        have := bitsL_len (segN d.blocks) x
        rw [hx2]; omega
      have Hst := Lib.hid (wK_step (ws := l) hD)
      have Hwt := Lib.hid (Weight_ref _ _ l D wo (Hv.out.below hwo) hny HC2.out hlt2 hDl)
      obtain ⟨AY, cY, rfl, _, _⟩ := hny.form
      clear hy hD hx2 hx3 hlt2 hny
      generalize wgL l D = G at *
      generalize (natsI D).length = nD at *
      by_cases hG : G ≤ 1000
      · have hG2 : ¬ 1000 < G := by omega
        have Hs1 := Lib.hid (show wK d l (k + 1) = wK d l k by rw [Hst.out, if_pos hG])
        generalize wK d l k = X at *
        go_wp2_with fail
        refine Hwt.out.mono ?_
        rintro e w1q ⟨rfl, hb1q⟩
        go_wp2_with fail
        go_roundw
        case rel => exact ⟨k + 1, by omega, by go_num, by rw [Hs1.out], hbr.trans (hb1q.mono hbr.size)⟩
        case measure => simp [intOf]; omega
      · have hG2 : 1000 < G := by omega
        have Hs1 := Lib.hid (show wK d l (k + 1) = 9 by rw [Hst.out, if_neg hG])
        generalize wK d l k = X at *
        go_wp2_with fail
        refine Hwt.out.mono ?_
        rintro e w1q ⟨rfl, hb1q⟩
        go_wp2_with fail
        go_roundw
        case rel => exact ⟨k + 1, by omega, by go_num, by rw [Hs1.out], hbr.trans (hb1q.mono hbr.size)⟩
        case measure => simp [intOf]; omega
    · obtain rfl : k = (legalDs d).length := by omega
      have hq1 : ¬ ((legalDs d).length : Int) < ((legalDs d).length : Int) := by omega
      rw [HWK.out]
      clear Hr
      generalize (legalDs d).length = nL at *
      obtain ⟨wp, rfl⟩ : ∃ wp : World, wp = wo := ⟨_, rfl⟩
      have Hv1 := Lib.hid (Hv.out.below hwo)
      go_wp2_with fail
      go_loop [8, 11] (fun s i => ∃ k : Nat, k ≤ n ∧ i = .int .i64 k ∧ s = .int .i64 (sumL (l.take k))) (fun s i => n - (intOf i).toNat)
      case atStart => exact ⟨0, by omega, rfl, rfl⟩
      case round =>
        obtain ⟨k, hk2, rfl, rfl⟩ := hrel
        by_cases hlt2 : k < n
        · obtain ⟨b, o, y, rfl, hy, cy, _⟩ := Hv1.out.at_ (k := k) (by rw [HLn.out]; exact hlt2)
          have hyb := HC2.out y (List.mem_of_getElem? hy)
          have Hst := Lib.hid (sumL_take hy)
          have hsb := sumL_small (M := 1000000) (by omega) (l.take k) (fun x hx => HC2.out x (List.mem_of_mem_take hx))
          have hlk : (l.take k).length ≤ k := List.length_take_le _ _
          generalize sumL (l.take k) = Q at *
          generalize (l.take k).length = nq at *
          clear hy
          have hq2 : (k : Int) < (n : Int) := by omega
          go_wp2
          go_round
          case rel => exact ⟨k + 1, by omega, by go_num, by rw [Hst.out]⟩
          case measure => simp [intOf]; omega
        · obtain rfl : k = n := by omega
          have hq2 : ¬ (k : Int) < (k : Int) := by omega
          rw [HSt.out]
          have hww := hwo
          go_wp2_with fail
          refine (wakes_any _).mono ?_
          rintro e wz ⟨rfl, hbz⟩
          go_wp2
          go_ret
          exact ⟨rfl, hwo.trans (hbz.mono hwo.size)⟩
set_option maxRecDepth 100000 in
set_option maxHeartbeats 6400000 in
theorem Bounds_heavy (d : DDay) (u z v : Value) (l : List Int) (w : World) (hda : DayAt w u z d) (hv : NumsAt .i64 w v l) (hl : thinD d = true) (hn : l.length ≤ 14) (hf : faultD d = 0) (hs : segN d.blocks ≤ 7) (hc : capB d l = true) (hk : fairK d l (2 ^ segN d.blocks) = false) :
    Calls Tryz.prog 3 #[.agg #[.int .i64 d.law.piece, .int .i64 d.law.drive, .int .i64 d.law.spread, .int .i64 d.law.brk, .int .i64 d.law.on, .int .i64 d.law.off, .int .i64 d.law.least, .int .i64 d.law.pieces, u, z], v] w (Gives w (.bool true)) := by
  obtain ⟨A3, c3, rfl, hc3, hm3⟩ := hv.form
  have hm := thin_mild hl
  have hok := fault_ok (show (faultD d != 0) = false by rw [hf]; rfl)
  have hnI : ¬ (14 : Int) < (l.length : Int) := by omega
  have hsI : ¬ (7 : Int) < (segN d.blocks : Int) := by omega
  obtain ⟨hc1, hc2⟩ : l.length = segN d.blocks ∧ ∀ x ∈ l, 0 ≤ x ∧ x ≤ 1000000 := by
    unfold capB at hc
    simp only [Bool.and_eq_true, decide_eq_true_eq, List.all_eq_true] at hc
    exact ⟨hc.1, fun x hx => inB_iff.1 (hc.2 x hx)⟩
  have hS := sumL_small (M := 1000000) (by omega) l hc2
  have HB := Lib.hid (show boundQ d l = (0, 9) by unfold boundQ; rw [if_neg (by rw [hf]; decide), hc, hk]; rfl)
  have HWK := Lib.hid (show wK d l (legalDs d).length = 9 by rw [wK_all, hk]; rfl)
  have HF := Lib.hid hf
  have HC := Lib.hid hc
  have Hok := Lib.hid hok
  have HC2 := Lib.hid hc2
  have HLD := legalDs_len (d := d) (by omega)
  have HC1 := Lib.hid hc1
  clear hf hc hk hc2 hok hc1
  have HSt := Lib.hid (show sumL (l.take l.length) = sumL l by rw [List.take_length])
  generalize hSS : sumL l = S at *
  have HSS := Lib.hid hSS
  clear hSS
  have HGB := Lib.hid (show ∀ (u z v : Value) (w' : World), DayAt w' u z d → NumsAt .i64 w' v l → Calls Tryz.prog 13 #[.agg #[.int .i64 d.law.piece, .int .i64 d.law.drive, .int .i64 d.law.spread, .int .i64 d.law.brk, .int .i64 d.law.on, .int .i64 d.law.off, .int .i64 d.law.least, .int .i64 d.law.pieces, u, z], v] w' (Gives w' (.tuple #[.int .i64 0, .int .i64 9])) from by
    intro u z v w' h1 h2
    have h := Bound_any d u z v l w' h1 hm h2
    rw [HB.out] at h
    exact h)
  generalize hLn : l.length = n at *
  have HLn := Lib.hid hLn
  clear hLn
  obtain ⟨A1, c1, rfl, _, _⟩ := hda.blocks.form
  obtain ⟨A2, c2, rfl, _, _⟩ := hda.walk.form
  have hw0 : Below w.heap.size w (w.alloc (.cells #[.int .i64 d.law.piece, .int .i64 d.law.drive, .int .i64 d.law.spread, .int .i64 d.law.brk, .int .i64 d.law.on, .int .i64 d.law.off, .int .i64 d.law.least, .int .i64 d.law.pieces, .slice A1 d.blocks.length c1, .slice A2 d.walk.length c2] 27)) := (Below.refl _ _).alloc (Nat.le_refl _) _
  have G0 := Lib.hid (heap_alloc_new w (.cells #[.int .i64 d.law.piece, .int .i64 d.law.drive, .int .i64 d.law.spread, .int .i64 d.law.brk, .int .i64 d.law.on, .int .i64 d.law.off, .int .i64 d.law.least, .int .i64 d.law.pieces, .slice A1 d.blocks.length c1, .slice A2 d.walk.length c2] 27 (0, 0)))
  have Hda := Lib.hid hda
  have Hl := Lib.hid hl
  have Hv := Lib.hid hv
  clear hl hv
  clear hda
  go_enter Tryz.func3, Tryz.ntmps3
  have gc := box_cells G0.out
  have gf := box_frozen G0.out
  go_wp2_with fail
  refine (Gives.to Hl.out (Thin_any d _ _ _ (Hda.out.below hw0))).mono ?_
  rintro e w1 ⟨rfl, hb1⟩
  have hw1 := hw0.trans (hb1.mono hw0.size)
  have G1 := Lib.hid (box_step hb1 G0.out)
  replace gc := box_cells G1.out
  replace gf := box_frozen G1.out
  go_wp2_with fail
  refine (HF.out ▸ FaultR_any d _ _ _ (Hda.out.below hw1) hm).mono ?_
  rintro e w2 ⟨rfl, hb2⟩
  have hw2 := hw1.trans (hb2.mono hw1.size)
  have G2 := Lib.hid (box_step hb2 G1.out)
  replace gc := box_cells G2.out
  replace gf := box_frozen G2.out
  go_wp2_with fail
  refine (Segments_any d _ _ _ (Hda.out.below hw2) hm).mono ?_
  rintro e w3 ⟨rfl, hb3⟩
  have hw3 := hw2.trans (hb3.mono hw2.size)
  have G3 := Lib.hid (box_step hb3 G2.out)
  replace gc := box_cells G3.out
  replace gf := box_frozen G3.out
  go_wp2_with fail
  refine (DayC_any d _ _ _ (Hda.out.below hw3) hm).mono ?_
  rintro e w4 ⟨B14, B24, e14, e24, rfl, hd4, hb4⟩
  have hw4 := hw3.trans (hb4.mono hw3.size)
  have G4 := Lib.hid (box_step hb4 G3.out)
  replace gc := box_cells G4.out
  replace gf := box_frozen G4.out
  go_wp2_with fail
  refine (copy_any _ l _ (Hv.out.below hw4) (by rw [HLn.out]; omega)).mono ?_
  rintro e w5 ⟨A45, c45, rfl, ho5, hb5⟩
  have hw5 := hw4.trans (hb5.mono hw4.size)
  have G5 := Lib.hid (box_step hb5 G4.out)
  replace gc := box_cells G5.out
  replace gf := box_frozen G5.out
  have hn5 := nums_of_own (K := .i64) ho5
  have hd4b := hd4.below hb5
  clear ho5
  rw [HLn.out] at hn5 ⊢
  go_wp2_with fail
  refine (HGB.out _ _ _ _ hd4b hn5).mono ?_
  rintro e w6 ⟨rfl, hb6⟩
  have hw6 := hw5.trans (hb6.mono hw5.size)
  have G6 := Lib.hid (box_step hb6 G5.out)
  replace gc := box_cells G6.out
  replace gf := box_frozen G6.out
  clear hd4 hd4b hn5
  go_wp2_with fail
  refine (HF.out ▸ fault_any d _ _ _ (Hda.out.below hw6) hm).mono ?_
  rintro e w7 ⟨rfl, hb7⟩
  have hw7 := hw6.trans (hb7.mono hw6.size)
  have G7 := Lib.hid (box_step hb7 G6.out)
  replace gc := box_cells G7.out
  replace gf := box_frozen G7.out
  go_wp2_with fail
  refine (Gives.to HC.out (RightWeights_ref d _ _ _ l _ (Hda.out.below hw7) hm (Hv.out.below hw7) (by rw [HLn.out]; omega))).mono ?_
  rintro e w8 ⟨rfl, hb8⟩
  have hw8 := hw7.trans (hb8.mono hw7.size)
  have G8 := Lib.hid (box_step hb8 G7.out)
  replace gc := box_cells G8.out
  replace gf := box_frozen G8.out
  go_wp2_with fail
  refine (LegalDuties_any d _ _ _ (Hda.out.below hw8) Hok.out).mono ?_
  rintro e w9 ⟨A5, c5, us, rfl, ho, hro, hb9⟩
  have hw9 := hw8.trans (hb9.mono hw8.size)
  have G9 := Lib.hid (box_step hb9 G8.out)
  replace gc := box_cells G9.out
  replace gf := box_frozen G9.out
  have Hr := Lib.hid (rows_of_own ho hro)
  have HDl := Lib.hid (show ((legalDs d).map natsI).length = (legalDs d).length by simp)
  rw [HDl.out] at Hr ⊢
  clear ho hro
  go_wp2_with fail
  go_loopw [7, 10] (fun x i wr => ∃ k : Nat, k ≤ (legalDs d).length ∧ i = .int .i64 k ∧ x = .int .i64 (wK d l k) ∧ Below w9.heap.size w9 wr) (fun x i wr => (legalDs d).length - (intOf i).toNat)
  case atStart => exact ⟨0, by omega, rfl, by rw [wK_zero], Below.refl _ _⟩
  case round =>
    obtain ⟨k, hk, rfl, rfl, hbr⟩ := hrel
    obtain ⟨wo, rfl⟩ : ∃ wo : World, wo = wr := ⟨_, rfl⟩
    have Go := Lib.hid (box_step hbr G9.out)
    replace gc := box_cells Go.out
    replace gf := box_frozen Go.out
    have hwo := hw9.trans (hbr.mono hw9.size)
    by_cases hlt : k < (legalDs d).length
    · have hq1 : (k : Int) < ((legalDs d).length : Int) := by omega
      obtain ⟨b, o, y, yv, rfl, hy, cy, hny, _⟩ := (Hr.out.below hbr).at_ (k := k) (by rw [HDl.out]; exact hlt)
      rw [List.getElem?_map] at hy
      obtain ⟨D, hD, rfl⟩ := Option.map_eq_some_iff.1 hy
      obtain ⟨x, hx0, hx1, hx2, hx3⟩ := mem_legalDs.1 (List.mem_of_getElem? hD)
      have hlt2 : ∀ s ∈ D, s < l.length := by rw [HLn.out, HC1.out, hx2]; exact fun s hs => (mem_bitsL.1 hs).1
      have hDl : D.length ≤ 1000 := by
        have := bitsL_len (segN d.blocks) x
        rw [hx2]; omega
      have Hst := Lib.hid (wK_step (ws := l) hD)
      have Hwt := Lib.hid (Weight_ref _ _ l D wo (Hv.out.below hwo) hny HC2.out hlt2 hDl)
      obtain ⟨AY, cY, rfl, _, _⟩ := hny.form
      clear hy hD hx2 hx3 hlt2 hny
      generalize wgL l D = G at *
      generalize (natsI D).length = nD at *
      by_cases hG : G ≤ 1000
      · have hG2 : ¬ 1000 < G := by omega
        have Hs1 := Lib.hid (show wK d l (k + 1) = wK d l k by rw [Hst.out, if_pos hG])
        generalize wK d l k = X at *
        go_wp2_with fail
        refine Hwt.out.mono ?_
        rintro e w1q ⟨rfl, hb1q⟩
        go_wp2_with fail
        go_roundw
        case rel => exact ⟨k + 1, by omega, by go_num, by rw [Hs1.out], hbr.trans (hb1q.mono hbr.size)⟩
        case measure => simp [intOf]; omega
      · have hG2 : 1000 < G := by omega
        have Hs1 := Lib.hid (show wK d l (k + 1) = 9 by rw [Hst.out, if_neg hG])
        generalize wK d l k = X at *
        go_wp2_with fail
        refine Hwt.out.mono ?_
        rintro e w1q ⟨rfl, hb1q⟩
        go_wp2_with fail
        go_roundw
        case rel => exact ⟨k + 1, by omega, by go_num, by rw [Hs1.out], hbr.trans (hb1q.mono hbr.size)⟩
        case measure => simp [intOf]; omega
    · obtain rfl : k = (legalDs d).length := by omega
      have hq1 : ¬ ((legalDs d).length : Int) < ((legalDs d).length : Int) := by omega
      rw [HWK.out]
      clear Hr
      generalize (legalDs d).length = nL at *
      obtain ⟨wp, rfl⟩ : ∃ wp : World, wp = wo := ⟨_, rfl⟩
      have Hv1 := Lib.hid (Hv.out.below hwo)
      go_wp2_with fail
      go_loop [8, 11] (fun s i => ∃ k : Nat, k ≤ n ∧ i = .int .i64 k ∧ s = .int .i64 (sumL (l.take k))) (fun s i => n - (intOf i).toNat)
      case atStart => exact ⟨0, by omega, rfl, rfl⟩
      case round =>
        obtain ⟨k, hk2, rfl, rfl⟩ := hrel
        by_cases hlt2 : k < n
        · obtain ⟨b, o, y, rfl, hy, cy, _⟩ := Hv1.out.at_ (k := k) (by rw [HLn.out]; exact hlt2)
          have hyb := HC2.out y (List.mem_of_getElem? hy)
          have Hst := Lib.hid (sumL_take hy)
          have hsb := sumL_small (M := 1000000) (by omega) (l.take k) (fun x hx => HC2.out x (List.mem_of_mem_take hx))
          have hlk : (l.take k).length ≤ k := List.length_take_le _ _
          generalize sumL (l.take k) = Q at *
          generalize (l.take k).length = nq at *
          clear hy
          have hq2 : (k : Int) < (n : Int) := by omega
          go_wp2
          go_round
          case rel => exact ⟨k + 1, by omega, by go_num, by rw [Hst.out]⟩
          case measure => simp [intOf]; omega
        · obtain rfl : k = n := by omega
          have hq2 : ¬ (k : Int) < (k : Int) := by omega
          rw [HSt.out]
          have hww := hwo
          go_wp2_with fail
          refine (wakes_any _).mono ?_
          rintro e wz ⟨rfl, hbz⟩
          go_wp2
          go_ret
          exact ⟨rfl, hwo.trans (hbz.mono hwo.size)⟩
theorem Bounds_law (d : DDay) (u z v : Value) (l : List Int) (w : World) (hda : DayAt w u z d) (hv : NumsAt .i64 w v l) :
    Calls Tryz.prog 3 #[.agg #[.int .i64 d.law.piece, .int .i64 d.law.drive, .int .i64 d.law.spread, .int .i64 d.law.brk, .int .i64 d.law.on, .int .i64 d.law.off, .int .i64 d.law.least, .int .i64 d.law.pieces, u, z], v] w (Gives w (.bool true)) := by
  cases hl : thinD d with
  | false => exact Bounds_thick d u z v l w hda hv hl
  | true =>
    by_cases hn : 14 < l.length
    · exact Bounds_long d u z v l w hda hv hl hn
    have hn' : l.length ≤ 14 := by omega
    by_cases hf : faultD d = 0
    · by_cases hs : 7 < segN d.blocks
      · exact Bounds_many d u z v l w hda hv hl hn' hf hs
      have hs' : segN d.blocks ≤ 7 := by omega
      cases hc : capB d l with
      | false => exact Bounds_range d u z v l w hda hv hl hn' hf hs' hc
      | true =>
        cases hk : fairK d l (2 ^ segN d.blocks) with
        | false => exact Bounds_heavy d u z v l w hda hv hl hn' hf hs' hc hk
        | true => exact Bounds_fair d u z v l w hda hv hl hn' hf hs' hc hk
    · exact Bounds_fault d u z v l w hda hv hl hn' hf
end Go.Proofs.YtllobkhdeahgpaaGreat
