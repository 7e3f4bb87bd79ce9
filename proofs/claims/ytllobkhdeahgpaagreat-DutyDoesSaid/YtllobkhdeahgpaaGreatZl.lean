import Derived.Test.YtllobkhdeahgpaaGreatZk
import Derived.Test.YtllobkhdeahgpaaGreatZa
set_option linter.unusedVariables false
set_option linter.unusedSimpArgs false
namespace Go.Proofs.YtllobkhdeahgpaaGreat
open Go Go.Proofs Go.RowKit

/-! ### DutyDoes -/
set_option maxRecDepth 100000 in
set_option maxHeartbeats 800000 in
theorem Does_thick (d : DDay) (u z v vt : Value) (l : List Int) (tt : List (List Int)) (w : World) (hda : DayAt w u z d) (hv : NumsAt .i64 w v l) (hvt : RowsAt w vt tt) (hl : thinD d = false) :
    Calls Tryz.prog 7 #[.agg #[.int .i64 d.law.piece, .int .i64 d.law.drive, .int .i64 d.law.spread, .int .i64 d.law.brk, .int .i64 d.law.on, .int .i64 d.law.off, .int .i64 d.law.least, .int .i64 d.law.pieces, u, z], v, vt] w (Gives w (.bool true)) := by
  obtain ⟨A3, c3, rfl, hc3, hm3⟩ := hv.form
  obtain ⟨A4, c4, rfl, hc4, hm4⟩ := hvt.form
  obtain ⟨A1, c1, rfl, _, _⟩ := hda.blocks.form
  obtain ⟨A2, c2, rfl, _, _⟩ := hda.walk.form
  have hw0 : Below w.heap.size w (w.alloc (.cells #[.int .i64 d.law.piece, .int .i64 d.law.drive, .int .i64 d.law.spread, .int .i64 d.law.brk, .int .i64 d.law.on, .int .i64 d.law.off, .int .i64 d.law.least, .int .i64 d.law.pieces, .slice A1 d.blocks.length c1, .slice A2 d.walk.length c2] 27)) := (Below.refl _ _).alloc (Nat.le_refl _) _
  have G0 := Lib.hid (heap_alloc_new w (.cells #[.int .i64 d.law.piece, .int .i64 d.law.drive, .int .i64 d.law.spread, .int .i64 d.law.brk, .int .i64 d.law.on, .int .i64 d.law.off, .int .i64 d.law.least, .int .i64 d.law.pieces, .slice A1 d.blocks.length c1, .slice A2 d.walk.length c2] 27 (0, 0)))
  have Hda := Lib.hid hda
  have Hl := Lib.hid hl
  clear hl hv hvt
  clear hda
  go_enter Tryz.func7, Tryz.ntmps7
  have gc := box_cells G0.out
  have gf := box_frozen G0.out
  go_wp2_with fail
  refine (Gives.to Hl.out (Thin_any d _ _ _ (Hda.out.below hw0))).mono ?_
  rintro e w1 ⟨rfl, hb1⟩
  have hw1 := hw0.trans (hb1.mono hw0.size)
  have G1 := Lib.hid (box_step hb1 G0.out)
  replace gc := box_cells G1.out
  replace gf := box_frozen G1.out
  go_wp2_with fail
  refine (wakes_any _).mono ?_
  rintro e w2 ⟨rfl, hb2⟩
  have hw2 := hw1.trans (hb2.mono hw1.size)
  have G2 := Lib.hid (box_step hb2 G1.out)
  replace gc := box_cells G2.out
  replace gf := box_frozen G2.out
  go_wp2
  go_ret
  exact ⟨rfl, hw2⟩
set_option maxRecDepth 100000 in
set_option maxHeartbeats 800000 in
theorem Does_long (d : DDay) (u z v vt : Value) (l : List Int) (tt : List (List Int)) (w : World) (hda : DayAt w u z d) (hv : NumsAt .i64 w v l) (hvt : RowsAt w vt tt) (hl : thinD d = true) (hn : 14 < l.length) :
    Calls Tryz.prog 7 #[.agg #[.int .i64 d.law.piece, .int .i64 d.law.drive, .int .i64 d.law.spread, .int .i64 d.law.brk, .int .i64 d.law.on, .int .i64 d.law.off, .int .i64 d.law.least, .int .i64 d.law.pieces, u, z], v, vt] w (Gives w (.bool true)) := by
  obtain ⟨A3, c3, rfl, hc3, hm3⟩ := hv.form
  obtain ⟨A4, c4, rfl, hc4, hm4⟩ := hvt.form
  have hnI : (14 : Int) < (l.length : Int) := by omega
  obtain ⟨A1, c1, rfl, _, _⟩ := hda.blocks.form
  obtain ⟨A2, c2, rfl, _, _⟩ := hda.walk.form
  have hw0 : Below w.heap.size w (w.alloc (.cells #[.int .i64 d.law.piece, .int .i64 d.law.drive, .int .i64 d.law.spread, .int .i64 d.law.brk, .int .i64 d.law.on, .int .i64 d.law.off, .int .i64 d.law.least, .int .i64 d.law.pieces, .slice A1 d.blocks.length c1, .slice A2 d.walk.length c2] 27)) := (Below.refl _ _).alloc (Nat.le_refl _) _
  have G0 := Lib.hid (heap_alloc_new w (.cells #[.int .i64 d.law.piece, .int .i64 d.law.drive, .int .i64 d.law.spread, .int .i64 d.law.brk, .int .i64 d.law.on, .int .i64 d.law.off, .int .i64 d.law.least, .int .i64 d.law.pieces, .slice A1 d.blocks.length c1, .slice A2 d.walk.length c2] 27 (0, 0)))
  have Hda := Lib.hid hda
  have Hl := Lib.hid hl
  clear hl hv hvt
  clear hda
  go_enter Tryz.func7, Tryz.ntmps7
  have gc := box_cells G0.out
  have gf := box_frozen G0.out
  go_wp2_with fail
  refine (Gives.to Hl.out (Thin_any d _ _ _ (Hda.out.below hw0))).mono ?_
  rintro e w1 ⟨rfl, hb1⟩
  have hw1 := hw0.trans (hb1.mono hw0.size)
  have G1 := Lib.hid (box_step hb1 G0.out)
  replace gc := box_cells G1.out
  replace gf := box_frozen G1.out
  go_wp2_with fail
  refine (wakes_any _).mono ?_
  rintro e w2 ⟨rfl, hb2⟩
  have hw2 := hw1.trans (hb2.mono hw1.size)
  have G2 := Lib.hid (box_step hb2 G1.out)
  replace gc := box_cells G2.out
  replace gf := box_frozen G2.out
  go_wp2
  go_ret
  exact ⟨rfl, hw2⟩
set_option maxRecDepth 100000 in
set_option maxHeartbeats 800000 in
theorem Does_wide (d : DDay) (u z v vt : Value) (l : List Int) (tt : List (List Int)) (w : World) (hda : DayAt w u z d) (hv : NumsAt .i64 w v l) (hvt : RowsAt w vt tt) (hl : thinD d = true) (hn : l.length ≤ 14) (hsh : shortB tt = false) :
    Calls Tryz.prog 7 #[.agg #[.int .i64 d.law.piece, .int .i64 d.law.drive, .int .i64 d.law.spread, .int .i64 d.law.brk, .int .i64 d.law.on, .int .i64 d.law.off, .int .i64 d.law.least, .int .i64 d.law.pieces, u, z], v, vt] w (Gives w (.bool true)) := by
  obtain ⟨A3, c3, rfl, hc3, hm3⟩ := hv.form
  obtain ⟨A4, c4, rfl, hc4, hm4⟩ := hvt.form
  have hnI : ¬ (14 : Int) < (l.length : Int) := by omega
  obtain ⟨A1, c1, rfl, _, _⟩ := hda.blocks.form
  obtain ⟨A2, c2, rfl, _, _⟩ := hda.walk.form
  have hw0 : Below w.heap.size w (w.alloc (.cells #[.int .i64 d.law.piece, .int .i64 d.law.drive, .int .i64 d.law.spread, .int .i64 d.law.brk, .int .i64 d.law.on, .int .i64 d.law.off, .int .i64 d.law.least, .int .i64 d.law.pieces, .slice A1 d.blocks.length c1, .slice A2 d.walk.length c2] 27)) := (Below.refl _ _).alloc (Nat.le_refl _) _
  have G0 := Lib.hid (heap_alloc_new w (.cells #[.int .i64 d.law.piece, .int .i64 d.law.drive, .int .i64 d.law.spread, .int .i64 d.law.brk, .int .i64 d.law.on, .int .i64 d.law.off, .int .i64 d.law.least, .int .i64 d.law.pieces, .slice A1 d.blocks.length c1, .slice A2 d.walk.length c2] 27 (0, 0)))
  have Hda := Lib.hid hda
  have Hl := Lib.hid hl
  have Hsh := Lib.hid hsh
  have Hvt := Lib.hid hvt
  clear hl hv hvt hsh
  clear hda
  go_enter Tryz.func7, Tryz.ntmps7
  have gc := box_cells G0.out
  have gf := box_frozen G0.out
  go_wp2_with fail
  refine (Gives.to Hl.out (Thin_any d _ _ _ (Hda.out.below hw0))).mono ?_
  rintro e w1 ⟨rfl, hb1⟩
  have hw1 := hw0.trans (hb1.mono hw0.size)
  have G1 := Lib.hid (box_step hb1 G0.out)
  replace gc := box_cells G1.out
  replace gf := box_frozen G1.out
  go_wp2_with fail
  refine (Gives.to Hsh.out (shortR_any _ tt _ (Hvt.out.below hw1))).mono ?_
  rintro e w2 ⟨rfl, hb2⟩
  have hw2 := hw1.trans (hb2.mono hw1.size)
  have G2 := Lib.hid (box_step hb2 G1.out)
  replace gc := box_cells G2.out
  replace gf := box_frozen G2.out
  go_wp2_with fail
  refine (wakes_any _).mono ?_
  rintro e w3 ⟨rfl, hb3⟩
  have hw3 := hw2.trans (hb3.mono hw2.size)
  have G3 := Lib.hid (box_step hb3 G2.out)
  replace gc := box_cells G3.out
  replace gf := box_frozen G3.out
  go_wp2
  go_ret
  exact ⟨rfl, hw3⟩
set_option maxRecDepth 100000 in
set_option maxHeartbeats 6400000 in
theorem Does_fault (d : DDay) (u z v vt : Value) (l : List Int) (tt : List (List Int)) (w : World) (hda : DayAt w u z d) (hv : NumsAt .i64 w v l) (hvt : RowsAt w vt tt) (hl : thinD d = true) (hn : l.length ≤ 14) (hsh : shortB tt = true) (hf : faultD d ≠ 0) :
    Calls Tryz.prog 7 #[.agg #[.int .i64 d.law.piece, .int .i64 d.law.drive, .int .i64 d.law.spread, .int .i64 d.law.brk, .int .i64 d.law.on, .int .i64 d.law.off, .int .i64 d.law.least, .int .i64 d.law.pieces, u, z], v, vt] w (Gives w (.bool true)) := by
  obtain ⟨A3, c3, rfl, hc3, hm3⟩ := hv.form
  obtain ⟨A4, c4, rfl, hc4, hm4⟩ := hvt.form
  have hm := thin_mild hl
  have hnI : ¬ (14 : Int) < (l.length : Int) := by omega
  obtain ⟨hs12, hs14⟩ : tt.length ≤ 12 ∧ ∀ (j : Nat) (x : List Int), tt[j]? = some x → x.length ≤ 14 := by
    unfold shortB at hsh
    simp only [Bool.and_eq_true, decide_eq_true_eq, List.all_eq_true] at hsh
    exact ⟨hsh.1, fun j x hx => hsh.2 x (List.mem_of_getElem? hx)⟩
  have Hs14 := Lib.hid (show ∀ (j : Nat) (x : List Int), tt[j]? = some x → x.length ≤ 1000 from fun j x hx => by have := hs14 j x hx; omega)
  clear hs14
  have hf' : (faultD d != 0) = true := by simpa using hf
  have HGD := Lib.hid (show ∀ (u z v vt : Value) (w' : World), DayAt w' u z d → NumsAt .i64 w' v l → RowsAt w' vt tt → Calls Tryz.prog 37 #[.agg #[.int .i64 d.law.piece, .int .i64 d.law.drive, .int .i64 d.law.spread, .int .i64 d.law.brk, .int .i64 d.law.on, .int .i64 d.law.off, .int .i64 d.law.least, .int .i64 d.law.pieces, u, z], v, vt] w' (Gives w' (.tuple #[.agg #[.int .i64 0, .int .i64 0, .slice none 0 0, .bool false], .int .i64 (faultD d)])) from fun u z v vt w' h1 h2 h3 => Do_fault d u z v vt l tt w' h1 hm h2 (by omega) h3 hf')
  clear hf'
  generalize hF : faultD d = F at *
  have HF := Lib.hid hF
  clear hF
  have hF0 : (F == 0) = false := by simpa using hf
  have hF1 : (F != 0) = true := by simpa using hf
  obtain ⟨A1, c1, rfl, _, _⟩ := hda.blocks.form
  obtain ⟨A2, c2, rfl, _, _⟩ := hda.walk.form
  have hw0 : Below w.heap.size w (w.alloc (.cells #[.int .i64 d.law.piece, .int .i64 d.law.drive, .int .i64 d.law.spread, .int .i64 d.law.brk, .int .i64 d.law.on, .int .i64 d.law.off, .int .i64 d.law.least, .int .i64 d.law.pieces, .slice A1 d.blocks.length c1, .slice A2 d.walk.length c2] 27)) := (Below.refl _ _).alloc (Nat.le_refl _) _
  have G0 := Lib.hid (heap_alloc_new w (.cells #[.int .i64 d.law.piece, .int .i64 d.law.drive, .int .i64 d.law.spread, .int .i64 d.law.brk, .int .i64 d.law.on, .int .i64 d.law.off, .int .i64 d.law.least, .int .i64 d.law.pieces, .slice A1 d.blocks.length c1, .slice A2 d.walk.length c2] 27 (0, 0)))
  have Hda := Lib.hid hda
  have Hl := Lib.hid hl
  have Hsh := Lib.hid hsh
  have Hv := Lib.hid hv
  have Hvt := Lib.hid hvt
  clear hl hv hvt hsh
  clear hda
  go_enter Tryz.func7, Tryz.ntmps7
  have gc := box_cells G0.out
  have gf := box_frozen G0.out
  go_wp2_with fail
  refine (Gives.to Hl.out (Thin_any d _ _ _ (Hda.out.below hw0))).mono ?_
  rintro e w1 ⟨rfl, hb1⟩
  have hw1 := hw0.trans (hb1.mono hw0.size)
  have G1 := Lib.hid (box_step hb1 G0.out)
  replace gc := box_cells G1.out
  replace gf := box_frozen G1.out
  go_wp2_with fail
  refine (Gives.to Hsh.out (shortR_any _ tt _ (Hvt.out.below hw1))).mono ?_
  rintro e w2 ⟨rfl, hb2⟩
  have hw2 := hw1.trans (hb2.mono hw1.size)
  have G2 := Lib.hid (box_step hb2 G1.out)
  replace gc := box_cells G2.out
  replace gf := box_frozen G2.out
  go_wp2_with fail
  refine (DayC_any d _ _ _ (Hda.out.below hw2) hm).mono ?_
  rintro e w3 ⟨B13, B23, e13, e23, rfl, hd3, hb3⟩
  have hw3 := hw2.trans (hb3.mono hw2.size)
  have G3 := Lib.hid (box_step hb3 G2.out)
  replace gc := box_cells G3.out
  replace gf := box_frozen G3.out
  go_wp2_with fail
  refine (copy_any _ l _ (Hv.out.below hw3) (by omega)).mono ?_
  rintro e w4 ⟨A54, c54, rfl, ho4, hb4⟩
  have hw4 := hw3.trans (hb4.mono hw3.size)
  have G4 := Lib.hid (box_step hb4 G3.out)
  replace gc := box_cells G4.out
  replace gf := box_frozen G4.out
  have hn4 := nums_of_own (K := .i64) ho4
  have hd3b := hd3.below hb4
  clear ho4
  go_wp2_with fail
  refine (rows_any _ tt _ (Hvt.out.below hw4) (by omega) Hs14.out).mono ?_
  rintro e w5 ⟨A65, c65, us5, rfl, ho5, hr5, hb5⟩
  have hw5 := hw4.trans (hb5.mono hw4.size)
  have G5 := Lib.hid (box_step hb5 G4.out)
  replace gc := box_cells G5.out
  replace gf := box_frozen G5.out
  have hr5b := rows_of_own ho5 hr5
  have hd3c := hd3b.below hb5
  have hn4b := hn4.below hb5
  clear ho5 hr5
  go_wp2_with fail
  refine (HGD.out _ _ _ _ _ hd3c hn4b hr5b).mono ?_
  rintro e w6 ⟨rfl, hb6⟩
  have hw6 := hw5.trans (hb6.mono hw5.size)
  have G6 := Lib.hid (box_step hb6 G5.out)
  replace gc := box_cells G6.out
  replace gf := box_frozen G6.out
  clear hd3 hd3b hd3c hn4 hn4b hr5b
  have hlt6 := (Array.getElem?_eq_some_iff.1 G6.out).1
  go_wp2_with fail
  have hbx : Below w6.heap.size w6 (w6.alloc (.cells #[.int .i64 0, .int .i64 0, .slice none 0 0, .bool false] 63)) := (Below.refl _ _).alloc (Nat.le_refl _) _
  have hwx := hw6.trans (hbx.mono hw6.size)
  have Gx := Lib.hid (box_step hbx G6.out)
  have Bx := Lib.hid (heap_alloc_new w6 (.cells #[.int .i64 0, .int .i64 0, .slice none 0 0, .bool false] 63))
  have hBs := hw6.size
  refine (HF.out ▸ fault_any d _ _ _ (Hda.out.below hwx) hm).mono ?_
  rintro e wy ⟨rfl, hby⟩
  have hwy := hwx.trans (hby.mono hwx.size)
  have Gy := Lib.hid (box_step hby Gx.out)
  have By := Lib.hid (box_step hby Bx.out)
  replace gc := box_cells Gy.out
  replace gf := box_frozen Gy.out
  have bc := box_cells By.out
  have bf := box_frozen By.out
  go_wp2_with fail
  refine (wakes_any _).mono ?_
  rintro e w7 ⟨rfl, hb7⟩
  have hw7 := hwy.trans (hb7.mono hwy.size)
  have G7 := Lib.hid (box_step hb7 Gy.out)
  replace gc := box_cells G7.out
  replace gf := box_frozen G7.out
  have B7 := Lib.hid (box_step hb7 By.out)
  replace bc := box_cells B7.out
  replace bf := box_frozen B7.out
  go_wp2
  go_ret
  exact ⟨rfl, hw7⟩
set_option maxRecDepth 100000 in
set_option maxHeartbeats 6400000 in
theorem Does_range (d : DDay) (u z v vt : Value) (l : List Int) (tt : List (List Int)) (w : World) (hda : DayAt w u z d) (hv : NumsAt .i64 w v l) (hvt : RowsAt w vt tt) (hl : thinD d = true) (hn : l.length ≤ 14) (hsh : shortB tt = true) (hf : faultD d = 0) (hD : dutyB (segN d.blocks) l = false) :
    Calls Tryz.prog 7 #[.agg #[.int .i64 d.law.piece, .int .i64 d.law.drive, .int .i64 d.law.spread, .int .i64 d.law.brk, .int .i64 d.law.on, .int .i64 d.law.off, .int .i64 d.law.least, .int .i64 d.law.pieces, u, z], v, vt] w (Gives w (.bool true)) := by
  obtain ⟨A3, c3, rfl, hc3, hm3⟩ := hv.form
  obtain ⟨A4, c4, rfl, hc4, hm4⟩ := hvt.form
  have hm := thin_mild hl
  have hnI : ¬ (14 : Int) < (l.length : Int) := by omega
  obtain ⟨hs12, hs14⟩ : tt.length ≤ 12 ∧ ∀ (j : Nat) (x : List Int), tt[j]? = some x → x.length ≤ 14 := by
    unfold shortB at hsh
    simp only [Bool.and_eq_true, decide_eq_true_eq, List.all_eq_true] at hsh
    exact ⟨hsh.1, fun j x hx => hsh.2 x (List.mem_of_getElem? hx)⟩
  have Hs14 := Lib.hid (show ∀ (j : Nat) (x : List Int), tt[j]? = some x → x.length ≤ 1000 from fun j x hx => by have := hs14 j x hx; omega)
  clear hs14
  have hf' : (faultD d != 0) = false := by rw [hf]; rfl
  have hok := fault_ok hf'
  have HF := Lib.hid hf
  have HGD := Lib.hid (show ∀ (u z v vt : Value) (w' : World), DayAt w' u z d → NumsAt .i64 w' v l → RowsAt w' vt tt → Calls Tryz.prog 37 #[.agg #[.int .i64 d.law.piece, .int .i64 d.law.drive, .int .i64 d.law.spread, .int .i64 d.law.brk, .int .i64 d.law.on, .int .i64 d.law.off, .int .i64 d.law.least, .int .i64 d.law.pieces, u, z], v, vt] w' (Gives w' (.tuple #[.agg #[.int .i64 0, .int .i64 0, .slice none 0 0, .bool false], .int .i64 2])) from fun u z v vt w' h1 h2 h3 => Do_range d u z v vt l tt w' h1 hm h2 (by omega) h3 hok hD)
  have HGIs := Lib.hid (show ∀ (u z v : Value) (w' : World), DayAt w' u z d → NumsAt .i64 w' v l → Calls Tryz.prog 23 #[.agg #[.int .i64 d.law.piece, .int .i64 d.law.drive, .int .i64 d.law.spread, .int .i64 d.law.brk, .int .i64 d.law.on, .int .i64 d.law.off, .int .i64 d.law.least, .int .i64 d.law.pieces, u, z], v] w' (Gives w' (.bool false)) from fun u z v w' h1 h2 => Gives.to hD (IsDuty_any d u z v l w' h1 hok h2 (by omega)))
  clear hf hf' hok hD
  obtain ⟨A1, c1, rfl, _, _⟩ := hda.blocks.form
  obtain ⟨A2, c2, rfl, _, _⟩ := hda.walk.form
  have hw0 : Below w.heap.size w (w.alloc (.cells #[.int .i64 d.law.piece, .int .i64 d.law.drive, .int .i64 d.law.spread, .int .i64 d.law.brk, .int .i64 d.law.on, .int .i64 d.law.off, .int .i64 d.law.least, .int .i64 d.law.pieces, .slice A1 d.blocks.length c1, .slice A2 d.walk.length c2] 27)) := (Below.refl _ _).alloc (Nat.le_refl _) _
  have G0 := Lib.hid (heap_alloc_new w (.cells #[.int .i64 d.law.piece, .int .i64 d.law.drive, .int .i64 d.law.spread, .int .i64 d.law.brk, .int .i64 d.law.on, .int .i64 d.law.off, .int .i64 d.law.least, .int .i64 d.law.pieces, .slice A1 d.blocks.length c1, .slice A2 d.walk.length c2] 27 (0, 0)))
  have Hda := Lib.hid hda
  have Hl := Lib.hid hl
  have Hsh := Lib.hid hsh
  have Hv := Lib.hid hv
  have Hvt := Lib.hid hvt
  clear hl hv hvt hsh
  clear hda
  go_enter Tryz.func7, Tryz.ntmps7
  have gc := box_cells G0.out
  have gf := box_frozen G0.out
  go_wp2_with fail
  refine (Gives.to Hl.out (Thin_any d _ _ _ (Hda.out.below hw0))).mono ?_
  rintro e w1 ⟨rfl, hb1⟩
  have hw1 := hw0.trans (hb1.mono hw0.size)
  have G1 := Lib.hid (box_step hb1 G0.out)
  replace gc := box_cells G1.out
  replace gf := box_frozen G1.out
  go_wp2_with fail
  refine (Gives.to Hsh.out (shortR_any _ tt _ (Hvt.out.below hw1))).mono ?_
  rintro e w2 ⟨rfl, hb2⟩
  have hw2 := hw1.trans (hb2.mono hw1.size)
  have G2 := Lib.hid (box_step hb2 G1.out)
  replace gc := box_cells G2.out
  replace gf := box_frozen G2.out
  go_wp2_with fail
  refine (DayC_any d _ _ _ (Hda.out.below hw2) hm).mono ?_
  rintro e w3 ⟨B13, B23, e13, e23, rfl, hd3, hb3⟩
  have hw3 := hw2.trans (hb3.mono hw2.size)
  have G3 := Lib.hid (box_step hb3 G2.out)
  replace gc := box_cells G3.out
  replace gf := box_frozen G3.out
  go_wp2_with fail
  refine (copy_any _ l _ (Hv.out.below hw3) (by omega)).mono ?_
  rintro e w4 ⟨A54, c54, rfl, ho4, hb4⟩
  have hw4 := hw3.trans (hb4.mono hw3.size)
  have G4 := Lib.hid (box_step hb4 G3.out)
  replace gc := box_cells G4.out
  replace gf := box_frozen G4.out
  have hn4 := nums_of_own (K := .i64) ho4
  have hd3b := hd3.below hb4
  clear ho4
  go_wp2_with fail
  refine (rows_any _ tt _ (Hvt.out.below hw4) (by omega) Hs14.out).mono ?_
  rintro e w5 ⟨A65, c65, us5, rfl, ho5, hr5, hb5⟩
  have hw5 := hw4.trans (hb5.mono hw4.size)
  have G5 := Lib.hid (box_step hb5 G4.out)
  replace gc := box_cells G5.out
  replace gf := box_frozen G5.out
  have hr5b := rows_of_own ho5 hr5
  have hd3c := hd3b.below hb5
  have hn4b := hn4.below hb5
  clear ho5 hr5
  go_wp2_with fail
  refine (HGD.out _ _ _ _ _ hd3c hn4b hr5b).mono ?_
  rintro e w6 ⟨rfl, hb6⟩
  have hw6 := hw5.trans (hb6.mono hw5.size)
  have G6 := Lib.hid (box_step hb6 G5.out)
  replace gc := box_cells G6.out
  replace gf := box_frozen G6.out
  clear hd3 hd3b hd3c hn4 hn4b hr5b
  have hlt6 := (Array.getElem?_eq_some_iff.1 G6.out).1
  go_wp2_with fail
  have hbx : Below w6.heap.size w6 (w6.alloc (.cells #[.int .i64 0, .int .i64 0, .slice none 0 0, .bool false] 63)) := (Below.refl _ _).alloc (Nat.le_refl _) _
  have hwx := hw6.trans (hbx.mono hw6.size)
  have Gx := Lib.hid (box_step hbx G6.out)
  have Bx := Lib.hid (heap_alloc_new w6 (.cells #[.int .i64 0, .int .i64 0, .slice none 0 0, .bool false] 63))
  have hBs := hw6.size
  refine (HF.out ▸ fault_any d _ _ _ (Hda.out.below hwx) hm).mono ?_
  rintro e wy ⟨rfl, hby⟩
  have hwy := hwx.trans (hby.mono hwx.size)
  have Gy := Lib.hid (box_step hby Gx.out)
  have By := Lib.hid (box_step hby Bx.out)
  replace gc := box_cells Gy.out
  replace gf := box_frozen Gy.out
  have bc := box_cells By.out
  have bf := box_frozen By.out
  go_wp2_with fail
  refine (HGIs.out _ _ _ _ (Hda.out.below hwy) (Hv.out.below hwy)).mono ?_
  rintro e w7 ⟨rfl, hb7⟩
  have hw7 := hwy.trans (hb7.mono hwy.size)
  have G7 := Lib.hid (box_step hb7 Gy.out)
  replace gc := box_cells G7.out
  replace gf := box_frozen G7.out
  have B7 := Lib.hid (box_step hb7 By.out)
  replace bc := box_cells B7.out
  replace bf := box_frozen B7.out
  go_wp2_with fail
  refine (wakes_any _).mono ?_
  rintro e w8 ⟨rfl, hb8⟩
  have hw8 := hw7.trans (hb8.mono hw7.size)
  have G8 := Lib.hid (box_step hb8 G7.out)
  replace gc := box_cells G8.out
  replace gf := box_frozen G8.out
  have B8 := Lib.hid (box_step hb8 B7.out)
  replace bc := box_cells B8.out
  replace bf := box_frozen B8.out
  go_wp2
  go_ret
  exact ⟨rfl, hw8⟩
set_option maxRecDepth 100000 in
set_option maxHeartbeats 6400000 in
theorem Does_untrue (d : DDay) (u z v vt : Value) (l : List Int) (tt : List (List Int)) (w : World) (hda : DayAt w u z d) (hv : NumsAt .i64 w v l) (hvt : RowsAt w vt tt) (hl : thinD d = true) (hn : l.length ≤ 14) (hsh : shortB tt = true) (hf : faultD d = 0) (hD : dutyB (segN d.blocks) l = true) (ht : truthB d.blocks tt = false) :
    Calls Tryz.prog 7 #[.agg #[.int .i64 d.law.piece, .int .i64 d.law.drive, .int .i64 d.law.spread, .int .i64 d.law.brk, .int .i64 d.law.on, .int .i64 d.law.off, .int .i64 d.law.least, .int .i64 d.law.pieces, u, z], v, vt] w (Gives w (.bool true)) := by
  obtain ⟨A3, c3, rfl, hc3, hm3⟩ := hv.form
  obtain ⟨A4, c4, rfl, hc4, hm4⟩ := hvt.form
  have hm := thin_mild hl
  have hnI : ¬ (14 : Int) < (l.length : Int) := by omega
  obtain ⟨hs12, hs14⟩ : tt.length ≤ 12 ∧ ∀ (j : Nat) (x : List Int), tt[j]? = some x → x.length ≤ 14 := by
    unfold shortB at hsh
    simp only [Bool.and_eq_true, decide_eq_true_eq, List.all_eq_true] at hsh
    exact ⟨hsh.1, fun j x hx => hsh.2 x (List.mem_of_getElem? hx)⟩
  have Hs14 := Lib.hid (show ∀ (j : Nat) (x : List Int), tt[j]? = some x → x.length ≤ 1000 from fun j x hx => by have := hs14 j x hx; omega)
  clear hs14
  have hf' : (faultD d != 0) = false := by rw [hf]; rfl
  have hok := fault_ok hf'
  have HF := Lib.hid hf
  have HGD := Lib.hid (show ∀ (u z v vt : Value) (w' : World), DayAt w' u z d → NumsAt .i64 w' v l → RowsAt w' vt tt → Calls Tryz.prog 37 #[.agg #[.int .i64 d.law.piece, .int .i64 d.law.drive, .int .i64 d.law.spread, .int .i64 d.law.brk, .int .i64 d.law.on, .int .i64 d.law.off, .int .i64 d.law.least, .int .i64 d.law.pieces, u, z], v, vt] w' (Gives w' (.tuple #[.agg #[.int .i64 0, .int .i64 0, .slice none 0 0, .bool false], .int .i64 2])) from fun u z v vt w' h1 h2 h3 => Do_untrue d u z v vt l tt w' h1 hm h2 (by omega) h3 hok hD ht)
  have HGIs := Lib.hid (show ∀ (u z v : Value) (w' : World), DayAt w' u z d → NumsAt .i64 w' v l → Calls Tryz.prog 23 #[.agg #[.int .i64 d.law.piece, .int .i64 d.law.drive, .int .i64 d.law.spread, .int .i64 d.law.brk, .int .i64 d.law.on, .int .i64 d.law.off, .int .i64 d.law.least, .int .i64 d.law.pieces, u, z], v] w' (Gives w' (.bool true)) from fun u z v w' h1 h2 => Gives.to hD (IsDuty_any d u z v l w' h1 hok h2 (by omega)))
  have HGIt := Lib.hid (show ∀ (u z v : Value) (w' : World), DayAt w' u z d → RowsAt w' v tt → Calls Tryz.prog 38 #[.agg #[.int .i64 d.law.piece, .int .i64 d.law.drive, .int .i64 d.law.spread, .int .i64 d.law.brk, .int .i64 d.law.on, .int .i64 d.law.off, .int .i64 d.law.least, .int .i64 d.law.pieces, u, z], v] w' (Gives w' (.bool false)) from fun u z v w' h1 h2 => Gives.to ht (IsTruth_any d u z v tt w' h1 hm h2))
  clear hf hf' hok hD ht
  obtain ⟨A1, c1, rfl, _, _⟩ := hda.blocks.form
  obtain ⟨A2, c2, rfl, _, _⟩ := hda.walk.form
  have hw0 : Below w.heap.size w (w.alloc (.cells #[.int .i64 d.law.piece, .int .i64 d.law.drive, .int .i64 d.law.spread, .int .i64 d.law.brk, .int .i64 d.law.on, .int .i64 d.law.off, .int .i64 d.law.least, .int .i64 d.law.pieces, .slice A1 d.blocks.length c1, .slice A2 d.walk.length c2] 27)) := (Below.refl _ _).alloc (Nat.le_refl _) _
  have G0 := Lib.hid (heap_alloc_new w (.cells #[.int .i64 d.law.piece, .int .i64 d.law.drive, .int .i64 d.law.spread, .int .i64 d.law.brk, .int .i64 d.law.on, .int .i64 d.law.off, .int .i64 d.law.least, .int .i64 d.law.pieces, .slice A1 d.blocks.length c1, .slice A2 d.walk.length c2] 27 (0, 0)))
  have Hda := Lib.hid hda
  have Hl := Lib.hid hl
  have Hsh := Lib.hid hsh
  have Hv := Lib.hid hv
  have Hvt := Lib.hid hvt
  clear hl hv hvt hsh
  clear hda
  go_enter Tryz.func7, Tryz.ntmps7
  have gc := box_cells G0.out
  have gf := box_frozen G0.out
  go_wp2_with fail
  refine (Gives.to Hl.out (Thin_any d _ _ _ (Hda.out.below hw0))).mono ?_
  rintro e w1 ⟨rfl, hb1⟩
  have hw1 := hw0.trans (hb1.mono hw0.size)
  have G1 := Lib.hid (box_step hb1 G0.out)
  replace gc := box_cells G1.out
  replace gf := box_frozen G1.out
  go_wp2_with fail
  refine (Gives.to Hsh.out (shortR_any _ tt _ (Hvt.out.below hw1))).mono ?_
  rintro e w2 ⟨rfl, hb2⟩
  have hw2 := hw1.trans (hb2.mono hw1.size)
  have G2 := Lib.hid (box_step hb2 G1.out)
  replace gc := box_cells G2.out
  replace gf := box_frozen G2.out
  go_wp2_with fail
  refine (DayC_any d _ _ _ (Hda.out.below hw2) hm).mono ?_
  rintro e w3 ⟨B13, B23, e13, e23, rfl, hd3, hb3⟩
  have hw3 := hw2.trans (hb3.mono hw2.size)
  have G3 := Lib.hid (box_step hb3 G2.out)
  replace gc := box_cells G3.out
  replace gf := box_frozen G3.out
  go_wp2_with fail
  refine (copy_any _ l _ (Hv.out.below hw3) (by omega)).mono ?_
  rintro e w4 ⟨A54, c54, rfl, ho4, hb4⟩
  have hw4 := hw3.trans (hb4.mono hw3.size)
  have G4 := Lib.hid (box_step hb4 G3.out)
  replace gc := box_cells G4.out
  replace gf := box_frozen G4.out
  have hn4 := nums_of_own (K := .i64) ho4
  have hd3b := hd3.below hb4
  clear ho4
  go_wp2_with fail
  refine (rows_any _ tt _ (Hvt.out.below hw4) (by omega) Hs14.out).mono ?_
  rintro e w5 ⟨A65, c65, us5, rfl, ho5, hr5, hb5⟩
  have hw5 := hw4.trans (hb5.mono hw4.size)
  have G5 := Lib.hid (box_step hb5 G4.out)
  replace gc := box_cells G5.out
  replace gf := box_frozen G5.out
  have hr5b := rows_of_own ho5 hr5
  have hd3c := hd3b.below hb5
  have hn4b := hn4.below hb5
  clear ho5 hr5
  go_wp2_with fail
  refine (HGD.out _ _ _ _ _ hd3c hn4b hr5b).mono ?_
  rintro e w6 ⟨rfl, hb6⟩
  have hw6 := hw5.trans (hb6.mono hw5.size)
  have G6 := Lib.hid (box_step hb6 G5.out)
  replace gc := box_cells G6.out
  replace gf := box_frozen G6.out
  clear hd3 hd3b hd3c hn4 hn4b hr5b
  have hlt6 := (Array.getElem?_eq_some_iff.1 G6.out).1
  go_wp2_with fail
  have hbx : Below w6.heap.size w6 (w6.alloc (.cells #[.int .i64 0, .int .i64 0, .slice none 0 0, .bool false] 63)) := (Below.refl _ _).alloc (Nat.le_refl _) _
  have hwx := hw6.trans (hbx.mono hw6.size)
  have Gx := Lib.hid (box_step hbx G6.out)
  have Bx := Lib.hid (heap_alloc_new w6 (.cells #[.int .i64 0, .int .i64 0, .slice none 0 0, .bool false] 63))
  have hBs := hw6.size
  refine (HF.out ▸ fault_any d _ _ _ (Hda.out.below hwx) hm).mono ?_
  rintro e wy ⟨rfl, hby⟩
  have hwy := hwx.trans (hby.mono hwx.size)
  have Gy := Lib.hid (box_step hby Gx.out)
  have By := Lib.hid (box_step hby Bx.out)
  replace gc := box_cells Gy.out
  replace gf := box_frozen Gy.out
  have bc := box_cells By.out
  have bf := box_frozen By.out
  go_wp2_with fail
  refine (HGIs.out _ _ _ _ (Hda.out.below hwy) (Hv.out.below hwy)).mono ?_
  rintro e w7 ⟨rfl, hb7⟩
  have hw7 := hwy.trans (hb7.mono hwy.size)
  have G7 := Lib.hid (box_step hb7 Gy.out)
  replace gc := box_cells G7.out
  replace gf := box_frozen G7.out
  have B7 := Lib.hid (box_step hb7 By.out)
  replace bc := box_cells B7.out
  replace bf := box_frozen B7.out
  go_wp2_with fail
  refine (HGIt.out _ _ _ _ (Hda.out.below hw7) (Hvt.out.below hw7)).mono ?_
  rintro e w8 ⟨rfl, hb8⟩
  have hw8 := hw7.trans (hb8.mono hw7.size)
  have G8 := Lib.hid (box_step hb8 G7.out)
  replace gc := box_cells G8.out
  replace gf := box_frozen G8.out
  have B8 := Lib.hid (box_step hb8 B7.out)
  replace bc := box_cells B8.out
  replace bf := box_frozen B8.out
  go_wp2_with fail
  refine (wakes_any _).mono ?_
  rintro e w9 ⟨rfl, hb9⟩
  have hw9 := hw8.trans (hb9.mono hw8.size)
  have G9 := Lib.hid (box_step hb9 G8.out)
  replace gc := box_cells G9.out
  replace gf := box_frozen G9.out
  have B9 := Lib.hid (box_step hb9 B8.out)
  replace bc := box_cells B9.out
  replace bf := box_frozen B9.out
  go_wp2
  go_ret
  exact ⟨rfl, hw9⟩
set_option maxRecDepth 100000 in
set_option maxHeartbeats 12800000 in
theorem Does_ok (d : DDay) (u z v vt : Value) (l : List Int) (tt : List (List Int)) (w : World) (hda : DayAt w u z d) (hv : NumsAt .i64 w v l) (hvt : RowsAt w vt tt) (hl : thinD d = true) (hn : l.length ≤ 14) (hsh : shortB tt = true) (hf : faultD d = 0) (hD : dutyB (segN d.blocks) l = true) (ht : truthB d.blocks tt = true) :
    Calls Tryz.prog 7 #[.agg #[.int .i64 d.law.piece, .int .i64 d.law.drive, .int .i64 d.law.spread, .int .i64 d.law.brk, .int .i64 d.law.on, .int .i64 d.law.off, .int .i64 d.law.least, .int .i64 d.law.pieces, u, z], v, vt] w (Gives w (.bool true)) := by
  obtain ⟨A3, c3, rfl, hc3, hm3⟩ := hv.form
  obtain ⟨A4, c4, rfl, hc4, hm4⟩ := hvt.form
  have hm := thin_mild hl
  have hnI : ¬ (14 : Int) < (l.length : Int) := by omega
  obtain ⟨hs12, hs14⟩ : tt.length ≤ 12 ∧ ∀ (j : Nat) (x : List Int), tt[j]? = some x → x.length ≤ 14 := by
    unfold shortB at hsh
    simp only [Bool.and_eq_true, decide_eq_true_eq, List.all_eq_true] at hsh
    exact ⟨hsh.1, fun j x hx => hsh.2 x (List.mem_of_getElem? hx)⟩
  have Hs14 := Lib.hid (show ∀ (j : Nat) (x : List Int), tt[j]? = some x → x.length ≤ 1000 from fun j x hx => by have := hs14 j x hx; omega)
  clear hs14
  have hf' : (faultD d != 0) = false := by rw [hf]; rfl
  have hok := fault_ok hf'
  have HF := Lib.hid hf
  have HGIs := Lib.hid (show ∀ (u z v : Value) (w' : World), DayAt w' u z d → NumsAt .i64 w' v l → Calls Tryz.prog 23 #[.agg #[.int .i64 d.law.piece, .int .i64 d.law.drive, .int .i64 d.law.spread, .int .i64 d.law.brk, .int .i64 d.law.on, .int .i64 d.law.off, .int .i64 d.law.least, .int .i64 d.law.pieces, u, z], v] w' (Gives w' (.bool true)) from fun u z v w' h1 h2 => Gives.to hD (IsDuty_any d u z v l w' h1 hok h2 (by omega)))
  have HGIt := Lib.hid (show ∀ (u z v : Value) (w' : World), DayAt w' u z d → RowsAt w' v tt → Calls Tryz.prog 38 #[.agg #[.int .i64 d.law.piece, .int .i64 d.law.drive, .int .i64 d.law.spread, .int .i64 d.law.brk, .int .i64 d.law.on, .int .i64 d.law.off, .int .i64 d.law.least, .int .i64 d.law.pieces, u, z], v] w' (Gives w' (.bool true)) from fun u z v w' h1 h2 => Gives.to ht (IsTruth_any d u z v tt w' h1 hm h2))
  obtain ⟨hnl, hdu⟩ := dutyI_iff.1 (dutyB_iff.1 hD)
  have HPc := Lib.hid (show ∀ (u z v : Value) (w' : World), DayAt w' u z d → NumsAt .i64 w' v l → Calls Tryz.prog 39 #[.agg #[.int .i64 d.law.piece, .int .i64 d.law.drive, .int .i64 d.law.spread, .int .i64 d.law.brk, .int .i64 d.law.on, .int .i64 d.law.off, .int .i64 d.law.least, .int .i64 d.law.pieces, u, z], v] w' (GivesPcs w' (piecesL d (natsOf l))) from fun u z v w' h1 h2 => Pieces_any d u z v (natsOf l) w' h1 hok (by rw [← hnl]; exact h2) hdu)
  have HGD := Lib.hid (show ∀ (u z v vt : Value) (w' : World), DayAt w' u z d → NumsAt .i64 w' v l → RowsAt w' vt tt → Calls Tryz.prog 37 #[.agg #[.int .i64 d.law.piece, .int .i64 d.law.drive, .int .i64 d.law.spread, .int .i64 d.law.brk, .int .i64 d.law.on, .int .i64 d.law.off, .int .i64 d.law.least, .int .i64 d.law.pieces, u, z], v, vt] w' (GivesDo d (tabT tt) (piecesL d (natsOf l)) w') from fun u z v vt w' h1 h2 h3 => Do_ok d u z v vt l tt w' h1 hm h2 (by omega) h3 hok hD ht)
  obtain ⟨p1, p2⟩ := duty_pcs hok hdu
  have hpne := pieces_ne hdu
  obtain ⟨t1, t2, _⟩ := truth_tab hok ht
  have HIn := Lib.hid (show ∀ p ∈ piecesL d (natsOf l), InTab tt p.b p.fr ∧ InTab tt p.b p.to from fun p hp => ⟨t1 _ _ (p2 p hp).1, t1 _ _ (p2 p hp).2⟩)
  have HInD := Lib.hid p2
  have HSm := Lib.hid t2
  have Hok := Lib.hid hok
  obtain ⟨ps, hps⟩ : ∃ ps, piecesL d (natsOf l) = ps := ⟨_, rfl⟩
  rw [hps] at HPc HGD HIn HInD p1 hpne
  obtain ⟨DR, hDR⟩ : ∃ x, driveP (tabT tt) (tabT tt) ps = x := ⟨_, rfl⟩
  obtain ⟨SP, hSP⟩ : ∃ x, spreadP d (tabT tt) (tabT tt) ps = x := ⟨_, rfl⟩
  obtain ⟨OB, hOB⟩ : ∃ x, obeysB d (tabT tt) (tabT tt) ps = x := ⟨_, rfl⟩
  have HDR := Lib.hid hDR
  have HSP := Lib.hid hSP
  have HOB := Lib.hid hOB
  have HPN := Lib.hid hpne
  have q1 : (DR == DR) = true := by simp
  have q2 : (SP == SP) = true := by simp
  have q3 : (OB == OB) = true := by simp
  clear hf hf' hok hD ht hnl hdu p2 t1 t2 hps hDR hSP hOB hpne
  obtain ⟨A1, c1, rfl, _, _⟩ := hda.blocks.form
  obtain ⟨A2, c2, rfl, _, _⟩ := hda.walk.form
  have hw0 : Below w.heap.size w (w.alloc (.cells #[.int .i64 d.law.piece, .int .i64 d.law.drive, .int .i64 d.law.spread, .int .i64 d.law.brk, .int .i64 d.law.on, .int .i64 d.law.off, .int .i64 d.law.least, .int .i64 d.law.pieces, .slice A1 d.blocks.length c1, .slice A2 d.walk.length c2] 27)) := (Below.refl _ _).alloc (Nat.le_refl _) _
  have G0 := Lib.hid (heap_alloc_new w (.cells #[.int .i64 d.law.piece, .int .i64 d.law.drive, .int .i64 d.law.spread, .int .i64 d.law.brk, .int .i64 d.law.on, .int .i64 d.law.off, .int .i64 d.law.least, .int .i64 d.law.pieces, .slice A1 d.blocks.length c1, .slice A2 d.walk.length c2] 27 (0, 0)))
  have Hda := Lib.hid hda
  have Hl := Lib.hid hl
  have Hsh := Lib.hid hsh
  have Hv := Lib.hid hv
  have Hvt := Lib.hid hvt
  clear hl hv hvt hsh
  clear hda
  go_enter Tryz.func7, Tryz.ntmps7
  have gc := box_cells G0.out
  have gf := box_frozen G0.out
  go_wp2_with fail
  refine (Gives.to Hl.out (Thin_any d _ _ _ (Hda.out.below hw0))).mono ?_
  rintro e w1 ⟨rfl, hb1⟩
  have hw1 := hw0.trans (hb1.mono hw0.size)
  have G1 := Lib.hid (box_step hb1 G0.out)
  replace gc := box_cells G1.out
  replace gf := box_frozen G1.out
  go_wp2_with fail
  refine (Gives.to Hsh.out (shortR_any _ tt _ (Hvt.out.below hw1))).mono ?_
  rintro e w2 ⟨rfl, hb2⟩
  have hw2 := hw1.trans (hb2.mono hw1.size)
  have G2 := Lib.hid (box_step hb2 G1.out)
  replace gc := box_cells G2.out
  replace gf := box_frozen G2.out
  go_wp2_with fail
  refine (DayC_any d _ _ _ (Hda.out.below hw2) hm).mono ?_
  rintro e w3 ⟨B13, B23, e13, e23, rfl, hd3, hb3⟩
  have hw3 := hw2.trans (hb3.mono hw2.size)
  have G3 := Lib.hid (box_step hb3 G2.out)
  replace gc := box_cells G3.out
  replace gf := box_frozen G3.out
  go_wp2_with fail
  refine (copy_any _ l _ (Hv.out.below hw3) (by omega)).mono ?_
  rintro e w4 ⟨A54, c54, rfl, ho4, hb4⟩
  have hw4 := hw3.trans (hb4.mono hw3.size)
  have G4 := Lib.hid (box_step hb4 G3.out)
  replace gc := box_cells G4.out
  replace gf := box_frozen G4.out
  have hn4 := nums_of_own (K := .i64) ho4
  have hd3b := hd3.below hb4
  clear ho4
  go_wp2_with fail
  refine (rows_any _ tt _ (Hvt.out.below hw4) (by omega) Hs14.out).mono ?_
  rintro e w5 ⟨A65, c65, us5, rfl, ho5, hr5, hb5⟩
  have hw5 := hw4.trans (hb5.mono hw4.size)
  have G5 := Lib.hid (box_step hb5 G4.out)
  replace gc := box_cells G5.out
  replace gf := box_frozen G5.out
  have hr5b := rows_of_own ho5 hr5
  have hd3c := hd3b.below hb5
  have hn4b := hn4.below hb5
  clear ho5 hr5
  go_wp2_with fail
  refine (HGD.out _ _ _ _ _ hd3c hn4b hr5b).mono ?_
  rintro e w6 ⟨B7, e7, rfl, hbk, hb6⟩
  have hw6 := hw5.trans (hb6.mono hw5.size)
  have G6 := Lib.hid (box_step hb6 G5.out)
  replace gc := box_cells G6.out
  replace gf := box_frozen G6.out
  clear hd3 hd3b hd3c hn4 hn4b hr5b
  rw [HDR.out, HSP.out, HOB.out]
  have Hbk := Lib.hid hbk
  clear hbk
  have hlt6 := (Array.getElem?_eq_some_iff.1 G6.out).1
  go_wp2_with fail
  have hbx : Below w6.heap.size w6 (w6.alloc (.cells #[.int .i64 DR, .int .i64 SP, .slice B7 (ps.length - 1) e7, .bool OB] 63)) := (Below.refl _ _).alloc (Nat.le_refl _) _
  have hwx := hw6.trans (hbx.mono hw6.size)
  have Gx := Lib.hid (box_step hbx G6.out)
  have Bx := Lib.hid (heap_alloc_new w6 (.cells #[.int .i64 DR, .int .i64 SP, .slice B7 (ps.length - 1) e7, .bool OB] 63))
  have Hbx := Lib.hid (Hbk.out.below hbx)
  refine (HF.out ▸ fault_any d _ _ _ (Hda.out.below hwx) hm).mono ?_
  rintro e wy ⟨rfl, hby⟩
  have hwy := hwx.trans (hby.mono hwx.size)
  have Gy := Lib.hid (box_step hby Gx.out)
  have By := Lib.hid (box_step hby Bx.out)
  have hby2 := Hbx.out.below hby
  replace gc := box_cells Gy.out
  replace gf := box_frozen Gy.out
  have bc := box_cells By.out
  have bf := box_frozen By.out
  generalize w6.heap.size = NB at *
  go_wp2_with fail
  refine (HGIs.out _ _ _ _ (Hda.out.below hwy) (Hv.out.below hwy)).mono ?_
  rintro e w7 ⟨rfl, hb7⟩
  have hw7 := hwy.trans (hb7.mono hwy.size)
  have G7 := Lib.hid (box_step hb7 Gy.out)
  replace gc := box_cells G7.out
  replace gf := box_frozen G7.out
  have B7 := Lib.hid (box_step hb7 By.out)
  replace bc := box_cells B7.out
  replace bf := box_frozen B7.out
  replace hby2 := hby2.below hb7
  go_wp2_with fail
  refine (HGIt.out _ _ _ _ (Hda.out.below hw7) (Hvt.out.below hw7)).mono ?_
  rintro e w8 ⟨rfl, hb8⟩
  have hw8 := hw7.trans (hb8.mono hw7.size)
  have G8 := Lib.hid (box_step hb8 G7.out)
  replace gc := box_cells G8.out
  replace gf := box_frozen G8.out
  have B8 := Lib.hid (box_step hb8 B7.out)
  replace bc := box_cells B8.out
  replace bf := box_frozen B8.out
  replace hby2 := hby2.below hb8
  go_wp2_with fail
  refine (HPc.out _ _ _ _ (Hda.out.below hw8) (Hv.out.below hw8)).mono ?_
  rintro e w9 ⟨A8, c8, rfl, hop, hb9⟩
  have hw9 := hw8.trans (hb9.mono hw8.size)
  have G9 := Lib.hid (box_step hb9 G8.out)
  replace gc := box_cells G9.out
  replace gf := box_frozen G9.out
  have B9 := Lib.hid (box_step hb9 B8.out)
  replace bc := box_cells B9.out
  replace bf := box_frozen B9.out
  replace hby2 := hby2.below hb9
  have hpc := pcs_of_own hop
  clear hop
  have Hpc := Lib.hid hpc
  have Hby := Lib.hid hby2
  clear hpc hby2
  go_wp2_with fail
  refine wp_region_noPanic ?_
  refine wp_region_ph [([0, 1, 2, 3, 4, 5, 6, 7], [8]), ([9, 10, 11, 12, 13, 14, 15, 16, 17], [18]), ([19, 20, 21, 22, 23, 24, 25, 26], [27, 28]), ([29, 30, 31, 32, 33, 34, 35, 36], [37]), ([38, 39, 40], [41]), ([42], [43])] (fun _ => true) (fun w' => Below w9.heap.size w9 w') (by kernel_rfl) (by kernel_rfl) (fun _ _ _ _ _ h => h) ?_
  have hb10 : Below w9.heap.size w9 w9.drew := (Below.refl _ _).drew
  have HS10 := Lib.hid hb10
  obtain ⟨w10, hwe10⟩ : ∃ W, W = w9.drew := ⟨_, rfl⟩
  rw [← hwe10] at hb10 HS10 ⊢
  clear hwe10
  have hw10 := hw9.trans (hb10.mono hw9.size)
  have G10 := Lib.hid (box_step hb10 G9.out)
  replace gc := box_cells G10.out
  replace gf := box_frozen G10.out
  have B10 := Lib.hid (box_step hb10 B9.out)
  replace bc := box_cells B10.out
  replace bf := box_frozen B10.out
  refine wpPh_cons HS10.out (fun hne => ?_)
  have n0 := fun x : Meets (fun w' => Below w9.heap.size w9 w') => cell_below x.property (box_cells B9.out 0)
  have n1 := fun x : Meets (fun w' => Below w9.heap.size w9 w') => cell_below x.property (box_cells B9.out 1)
  have n2 := fun x : Meets (fun w' => Below w9.heap.size w9 w') => cell_below x.property (box_cells B9.out 2)
  have n3 := fun x : Meets (fun w' => Below w9.heap.size w9 w') => cell_below x.property (box_cells B9.out 3)
  simp only [pick, pickN, List.filterMap_cons, List.filterMap_nil, List.getElem?_cons_zero, List.getElem?_cons_succ, Option.map_some]
  repeat (change wpQuiet _ _ _ _ (_ :: _) _; go_big_quiet_step (fail))
  refine wpQuiet_nil ?_
  clear n0 n1 n2 n3 hne
  refine wpSeqK_step (fun K hK => ?_)
  go_simp
  refine (HDR.out ▸ Drive_any _ _ _ ps tt tt _ (Hpc.out.below HS10.out) (Hvt.out.below hw10) (Hvt.out.below hw10) HSm.out HSm.out HIn.out (by omega)).mono ?_
  rintro e w11 ⟨rfl, hb11⟩
  have HS11 := Lib.hid (HS10.out.trans (hb11.mono HS10.out.size))
  have hw11 := hw10.trans (hb11.mono hw10.size)
  have G11 := Lib.hid (box_step hb11 G10.out)
  replace gc := box_cells G11.out
  replace gf := box_frozen G11.out
  have B11 := Lib.hid (box_step hb11 B10.out)
  replace bc := box_cells B11.out
  replace bf := box_frozen B11.out
  refine hK.out _ _ (fun _ => HS11.out) ?_
  clear hK K
  refine wpSeqK_nil ?_
  refine wpPh_cons HS11.out (fun hne => ?_)
  have n0 := fun x : Meets (fun w' => Below w9.heap.size w9 w') => cell_below x.property (box_cells B9.out 0)
  have n1 := fun x : Meets (fun w' => Below w9.heap.size w9 w') => cell_below x.property (box_cells B9.out 1)
  have n2 := fun x : Meets (fun w' => Below w9.heap.size w9 w') => cell_below x.property (box_cells B9.out 2)
  have n3 := fun x : Meets (fun w' => Below w9.heap.size w9 w') => cell_below x.property (box_cells B9.out 3)
  have n4 := fun x : Meets (fun w' => Below w9.heap.size w9 w') => cell_below x.property (box_cells G9.out 0)
  have n5 := fun x : Meets (fun w' => Below w9.heap.size w9 w') => cell_below x.property (box_cells G9.out 1)
  have n6 := fun x : Meets (fun w' => Below w9.heap.size w9 w') => cell_below x.property (box_cells G9.out 2)
  have n7 := fun x : Meets (fun w' => Below w9.heap.size w9 w') => cell_below x.property (box_cells G9.out 3)
  have n8 := fun x : Meets (fun w' => Below w9.heap.size w9 w') => cell_below x.property (box_cells G9.out 4)
  have n9 := fun x : Meets (fun w' => Below w9.heap.size w9 w') => cell_below x.property (box_cells G9.out 5)
  have n10 := fun x : Meets (fun w' => Below w9.heap.size w9 w') => cell_below x.property (box_cells G9.out 6)
  have n11 := fun x : Meets (fun w' => Below w9.heap.size w9 w') => cell_below x.property (box_cells G9.out 7)
  have n12 := fun x : Meets (fun w' => Below w9.heap.size w9 w') => cell_below x.property (box_cells G9.out 8)
  have n13 := fun x : Meets (fun w' => Below w9.heap.size w9 w') => cell_below x.property (box_cells G9.out 9)
  simp only [pick, pickN, List.filterMap_cons, List.filterMap_nil, List.getElem?_cons_zero, List.getElem?_cons_succ, Option.map_some]
  repeat (change wpQuiet _ _ _ _ (_ :: _) _; go_big_quiet_step (fail))
  refine wpQuiet_nil ?_
  clear n0 n1 n2 n3 n4 n5 n6 n7 n8 n9 n10 n11 n12 n13 hne
  refine wpSeqK_step (fun K hK => ?_)
  go_simp
  refine (HSP.out ▸ Spread_any d _ _ _ _ _ ps tt tt _ (Hpc.out.below HS11.out) (Hvt.out.below hw11) (Hvt.out.below hw11) HSm.out HSm.out HIn.out (by omega) HPN.out Hok.out).mono ?_
  rintro e w12 ⟨rfl, hb12⟩
  have HS12 := Lib.hid (HS11.out.trans (hb12.mono HS11.out.size))
  have hw12 := hw11.trans (hb12.mono hw11.size)
  have G12 := Lib.hid (box_step hb12 G11.out)
  replace gc := box_cells G12.out
  replace gf := box_frozen G12.out
  have B12 := Lib.hid (box_step hb12 B11.out)
  replace bc := box_cells B12.out
  replace bf := box_frozen B12.out
  refine hK.out _ _ (fun _ => HS12.out) ?_
  clear hK K
  refine wpSeqK_nil ?_
  refine wpPh_cons HS12.out (fun hne => ?_)
  have n0 := fun x : Meets (fun w' => Below w9.heap.size w9 w') => cell_below x.property (box_cells B9.out 0)
  have n1 := fun x : Meets (fun w' => Below w9.heap.size w9 w') => cell_below x.property (box_cells B9.out 1)
  have n2 := fun x : Meets (fun w' => Below w9.heap.size w9 w') => cell_below x.property (box_cells B9.out 2)
  have n3 := fun x : Meets (fun w' => Below w9.heap.size w9 w') => cell_below x.property (box_cells B9.out 3)
  simp only [pick, pickN, List.filterMap_cons, List.filterMap_nil, List.getElem?_cons_zero, List.getElem?_cons_succ, Option.map_some]
  repeat (change wpQuiet _ _ _ _ (_ :: _) _; go_big_quiet_step (fail))
  refine wpQuiet_nil ?_
  clear n0 n1 n2 n3 hne
  refine wpSeqK_step (fun K hK => ?_)
  go_simp
  refine (Breaks_any _ _ _ ps tt tt _ (Hpc.out.below HS12.out) (Hvt.out.below hw12) (Hvt.out.below hw12) HSm.out HSm.out HIn.out (by omega)).mono ?_
  rintro e w13 ⟨A9, c9, rfl, hob, hb13⟩
  have HS13 := Lib.hid (HS12.out.trans (hb13.mono HS12.out.size))
  have hw13 := hw12.trans (hb13.mono hw12.size)
  have G13 := Lib.hid (box_step hb13 G12.out)
  replace gc := box_cells G13.out
  replace gf := box_frozen G13.out
  have B13 := Lib.hid (box_step hb13 B12.out)
  replace bc := box_cells B13.out
  replace bf := box_frozen B13.out
  have hnb := nums_of_own (K := .i64) hob
  clear hob
  refine hK.out _ _ (fun _ => HS13.out) ?_
  clear hK K
  refine wpSeqK_step (fun K hK => ?_)
  go_simp
  refine (Gives.to (decide_eq_true rfl) (ints_any _ _ _ _ _ (Hby.out.below HS13.out) hnb)).mono ?_
  rintro e w14 ⟨rfl, hb14⟩
  have HS14 := Lib.hid (HS13.out.trans (hb14.mono HS13.out.size))
  have hw14 := hw13.trans (hb14.mono hw13.size)
  have G14 := Lib.hid (box_step hb14 G13.out)
  replace gc := box_cells G14.out
  replace gf := box_frozen G14.out
  have B14 := Lib.hid (box_step hb14 B13.out)
  replace bc := box_cells B14.out
  replace bf := box_frozen B14.out
  refine hK.out _ _ (fun _ => HS14.out) ?_
  clear hK K
  refine wpSeqK_nil ?_
  refine wpPh_cons HS14.out (fun hne => ?_)
  have n0 := fun x : Meets (fun w' => Below w9.heap.size w9 w') => cell_below x.property (box_cells B9.out 0)
  have n1 := fun x : Meets (fun w' => Below w9.heap.size w9 w') => cell_below x.property (box_cells B9.out 1)
  have n2 := fun x : Meets (fun w' => Below w9.heap.size w9 w') => cell_below x.property (box_cells B9.out 2)
  have n3 := fun x : Meets (fun w' => Below w9.heap.size w9 w') => cell_below x.property (box_cells B9.out 3)
  have n4 := fun x : Meets (fun w' => Below w9.heap.size w9 w') => cell_below x.property (box_cells G9.out 0)
  have n5 := fun x : Meets (fun w' => Below w9.heap.size w9 w') => cell_below x.property (box_cells G9.out 1)
  have n6 := fun x : Meets (fun w' => Below w9.heap.size w9 w') => cell_below x.property (box_cells G9.out 2)
  have n7 := fun x : Meets (fun w' => Below w9.heap.size w9 w') => cell_below x.property (box_cells G9.out 3)
  have n8 := fun x : Meets (fun w' => Below w9.heap.size w9 w') => cell_below x.property (box_cells G9.out 4)
  have n9 := fun x : Meets (fun w' => Below w9.heap.size w9 w') => cell_below x.property (box_cells G9.out 5)
  have n10 := fun x : Meets (fun w' => Below w9.heap.size w9 w') => cell_below x.property (box_cells G9.out 6)
  have n11 := fun x : Meets (fun w' => Below w9.heap.size w9 w') => cell_below x.property (box_cells G9.out 7)
  have n12 := fun x : Meets (fun w' => Below w9.heap.size w9 w') => cell_below x.property (box_cells G9.out 8)
  have n13 := fun x : Meets (fun w' => Below w9.heap.size w9 w') => cell_below x.property (box_cells G9.out 9)
  simp only [pick, pickN, List.filterMap_cons, List.filterMap_nil, List.getElem?_cons_zero, List.getElem?_cons_succ, Option.map_some]
  repeat (change wpQuiet _ _ _ _ (_ :: _) _; go_big_quiet_step (fail))
  refine wpQuiet_nil ?_
  clear n0 n1 n2 n3 n4 n5 n6 n7 n8 n9 n10 n11 n12 n13 hne
  refine wpSeqK_step (fun K hK => ?_)
  go_simp
  refine (HOB.out ▸ Obeys_any d _ _ _ _ _ ps tt tt _ (Hda.out.below hw14) Hok.out (Hpc.out.below HS14.out) (Hvt.out.below hw14) (Hvt.out.below hw14) HSm.out HSm.out HIn.out HInD.out (by omega) HPN.out).mono ?_
  rintro e w15 ⟨rfl, hb15⟩
  have HS15 := Lib.hid (HS14.out.trans (hb15.mono HS14.out.size))
  have hw15 := hw14.trans (hb15.mono hw14.size)
  have G15 := Lib.hid (box_step hb15 G14.out)
  replace gc := box_cells G15.out
  replace gf := box_frozen G15.out
  have B15 := Lib.hid (box_step hb15 B14.out)
  replace bc := box_cells B15.out
  replace bf := box_frozen B15.out
  refine hK.out _ _ (fun _ => HS15.out) ?_
  clear hK K
  refine wpSeqK_nil ?_
  refine wpPh_cons HS15.out (fun hne => ?_)
  simp only [pick, pickN, List.filterMap_cons, List.filterMap_nil, List.getElem?_cons_zero, List.getElem?_cons_succ, Option.map_some]
  repeat (change wpQuiet _ _ _ _ (_ :: _) _; go_big_quiet_step (fail))
  refine wpQuiet_nil ?_
  clear  hne
  refine wpSeqK_step (fun K hK => ?_)
  go_simp
  refine (wakes_any _).mono ?_
  rintro e w16 ⟨rfl, hb16⟩
  have HS16 := Lib.hid (HS15.out.trans (hb16.mono HS15.out.size))
  have hw16 := hw15.trans (hb16.mono hw15.size)
  have G16 := Lib.hid (box_step hb16 G15.out)
  replace gc := box_cells G16.out
  replace gf := box_frozen G16.out
  have B16 := Lib.hid (box_step hb16 B15.out)
  replace bc := box_cells B16.out
  replace bf := box_frozen B16.out
  refine hK.out _ _ (fun _ => HS16.out) ?_
  clear hK K
  refine wpSeqK_nil ?_
  refine wpPh_cons HS16.out (fun hne => ?_)
  simp only [pick, pickN, List.filterMap_cons, List.filterMap_nil, List.getElem?_cons_zero, List.getElem?_cons_succ, Option.map_some]
  repeat (change wpQuiet _ _ _ _ (_ :: _) _; go_big_quiet_step (fail))
  refine wpQuiet_nil ?_
  clear  hne
  refine wpSeqK_step (fun K hK => ?_)
  go_simp
  refine hK.out _ _ (fun _ => HS16.out) ?_
  clear hK K
  refine wpSeqK_nil ?_
  refine wpPh_nil ?_
  refine NoPanic.normal ?_
  go_wp2
  go_ret
  exact ⟨rfl, hw16⟩
theorem Does_law (d : DDay) (u z v vt : Value) (l : List Int) (tt : List (List Int)) (w : World) (hda : DayAt w u z d) (hv : NumsAt .i64 w v l) (hvt : RowsAt w vt tt) :
    Calls Tryz.prog 7 #[.agg #[.int .i64 d.law.piece, .int .i64 d.law.drive, .int .i64 d.law.spread, .int .i64 d.law.brk, .int .i64 d.law.on, .int .i64 d.law.off, .int .i64 d.law.least, .int .i64 d.law.pieces, u, z], v, vt] w (Gives w (.bool true)) := by
  cases hl : thinD d with
  | false => exact Does_thick d u z v vt l tt w hda hv hvt hl
  | true =>
    by_cases hn : 14 < l.length
    · exact Does_long d u z v vt l tt w hda hv hvt hl hn
    have hn' : l.length ≤ 14 := by omega
    cases hsh : shortB tt with
    | false => exact Does_wide d u z v vt l tt w hda hv hvt hl hn' hsh
    | true =>
      by_cases hf : faultD d = 0
      · cases hD : dutyB (segN d.blocks) l with
        | false => exact Does_range d u z v vt l tt w hda hv hvt hl hn' hsh hf hD
        | true =>
          cases ht : truthB d.blocks tt with
          | false => exact Does_untrue d u z v vt l tt w hda hv hvt hl hn' hsh hf hD ht
          | true => exact Does_ok d u z v vt l tt w hda hv hvt hl hn' hsh hf hD ht
      · exact Does_fault d u z v vt l tt w hda hv hvt hl hn' hsh hf
end Go.Proofs.YtllobkhdeahgpaaGreat
