import Derived.Test.YtllobkhdeahgpaaGreatZ9
set_option linter.unusedVariables false
set_option linter.unusedSimpArgs false
namespace Go.Proofs.YtllobkhdeahgpaaGreat
open Go Go.Proofs Go.RowKit

/-! ### DutyLegal -/
set_option maxRecDepth 100000 in
set_option maxHeartbeats 800000 in
theorem fault_any (d : DDay) (u z : Value) (w : World) (hda : DayAt w u z d) (hm : Mild d) :
    Calls Tryz.prog 16 #[.agg #[.int .i64 d.law.piece, .int .i64 d.law.drive, .int .i64 d.law.spread, .int .i64 d.law.brk, .int .i64 d.law.on, .int .i64 d.law.off, .int .i64 d.law.least, .int .i64 d.law.pieces, u, z]] w (Gives w (.int .i64 (faultD d))) := by
  obtain ⟨A1, c1, rfl, _, _⟩ := hda.blocks.form
  obtain ⟨A2, c2, rfl, _, _⟩ := hda.walk.form
  have hw0 : Below w.heap.size w (w.alloc (.cells #[.int .i64 d.law.piece, .int .i64 d.law.drive, .int .i64 d.law.spread, .int .i64 d.law.brk, .int .i64 d.law.on, .int .i64 d.law.off, .int .i64 d.law.least, .int .i64 d.law.pieces, .slice A1 d.blocks.length c1, .slice A2 d.walk.length c2] 27)) := (Below.refl _ _).alloc (Nat.le_refl _) _
  have G0 := Lib.hid (heap_alloc_new w (.cells #[.int .i64 d.law.piece, .int .i64 d.law.drive, .int .i64 d.law.spread, .int .i64 d.law.brk, .int .i64 d.law.on, .int .i64 d.law.off, .int .i64 d.law.least, .int .i64 d.law.pieces, .slice A1 d.blocks.length c1, .slice A2 d.walk.length c2] 27 (0, 0)))
  have Hda := Lib.hid hda

  clear hda
  go_enter Tryz.func16, Tryz.ntmps16
  have gc := box_cells G0.out
  have gf := box_frozen G0.out
  go_wp2_with fail
  refine (FaultR_any d _ _ _ (Hda.out.below hw0) hm).mono ?_
  rintro e w1 ⟨rfl, hb1⟩
  have hw1 := hw0.trans (hb1.mono hw0.size)
  have G1 := Lib.hid (box_step hb1 G0.out)
  replace gc := box_cells G1.out
  replace gf := box_frozen G1.out
  go_wp2
  go_ret
  exact ⟨rfl, hw1⟩
set_option maxRecDepth 100000 in
set_option maxHeartbeats 800000 in
theorem Legal_thick (d : DDay) (u z v : Value) (l : List Int) (w : World) (hda : DayAt w u z d) (hv : NumsAt .i64 w v l) (hl : thinD d = false) :
    Calls Tryz.prog 4 #[.agg #[.int .i64 d.law.piece, .int .i64 d.law.drive, .int .i64 d.law.spread, .int .i64 d.law.brk, .int .i64 d.law.on, .int .i64 d.law.off, .int .i64 d.law.least, .int .i64 d.law.pieces, u, z], v] w (Gives w (.bool true)) := by
  obtain ⟨A3, c3, rfl, hc3, hm3⟩ := hv.form
  obtain ⟨A1, c1, rfl, _, _⟩ := hda.blocks.form
  obtain ⟨A2, c2, rfl, _, _⟩ := hda.walk.form
  have hw0 : Below w.heap.size w (w.alloc (.cells #[.int .i64 d.law.piece, .int .i64 d.law.drive, .int .i64 d.law.spread, .int .i64 d.law.brk, .int .i64 d.law.on, .int .i64 d.law.off, .int .i64 d.law.least, .int .i64 d.law.pieces, .slice A1 d.blocks.length c1, .slice A2 d.walk.length c2] 27)) := (Below.refl _ _).alloc (Nat.le_refl _) _
  have G0 := Lib.hid (heap_alloc_new w (.cells #[.int .i64 d.law.piece, .int .i64 d.law.drive, .int .i64 d.law.spread, .int .i64 d.law.brk, .int .i64 d.law.on, .int .i64 d.law.off, .int .i64 d.law.least, .int .i64 d.law.pieces, .slice A1 d.blocks.length c1, .slice A2 d.walk.length c2] 27 (0, 0)))
  have Hda := Lib.hid hda
  have Hl := Lib.hid hl
  clear hl hv
  clear hda
  go_enter Tryz.func4, Tryz.ntmps4
  have gc := box_cells G0.out
  have gf := box_frozen G0.out
  go_wp2_with fail
  refine (Gives.to Hl.out (Thin_any d _ _ _ (Hda.out.below hw0))).mono ?_
  rintro e w1 ⟨rfl, hb1⟩
  have hw1 := hw0.trans (hb1.mono hw0.size)
  have G1 := Lib.hid (box_step hb1 G0.out)
  replace gc := box_cells G1.out
  replace gf := box_frozen G1.out
  go_wp2_with fail
  refine (wakes_any _).mono ?_
  rintro e w2 ⟨rfl, hb2⟩
  have hw2 := hw1.trans (hb2.mono hw1.size)
  have G2 := Lib.hid (box_step hb2 G1.out)
  replace gc := box_cells G2.out
  replace gf := box_frozen G2.out
  go_wp2
  go_ret
  exact ⟨rfl, hw2⟩
set_option maxRecDepth 100000 in
set_option maxHeartbeats 800000 in
theorem Legal_long (d : DDay) (u z v : Value) (l : List Int) (w : World) (hda : DayAt w u z d) (hv : NumsAt .i64 w v l) (hl : thinD d = true) (hn : 14 < l.length) :
    Calls Tryz.prog 4 #[.agg #[.int .i64 d.law.piece, .int .i64 d.law.drive, .int .i64 d.law.spread, .int .i64 d.law.brk, .int .i64 d.law.on, .int .i64 d.law.off, .int .i64 d.law.least, .int .i64 d.law.pieces, u, z], v] w (Gives w (.bool true)) := by
  obtain ⟨A3, c3, rfl, hc3, hm3⟩ := hv.form
  have hnI : (14 : Int) < (l.length : Int) := by omega
  obtain ⟨A1, c1, rfl, _, _⟩ := hda.blocks.form
  obtain ⟨A2, c2, rfl, _, _⟩ := hda.walk.form
  have hw0 : Below w.heap.size w (w.alloc (.cells #[.int .i64 d.law.piece, .int .i64 d.law.drive, .int .i64 d.law.spread, .int .i64 d.law.brk, .int .i64 d.law.on, .int .i64 d.law.off, .int .i64 d.law.least, .int .i64 d.law.pieces, .slice A1 d.blocks.length c1, .slice A2 d.walk.length c2] 27)) := (Below.refl _ _).alloc (Nat.le_refl _) _
  have G0 := Lib.hid (heap_alloc_new w (.cells #[.int .i64 d.law.piece, .int .i64 d.law.drive, .int .i64 d.law.spread, .int .i64 d.law.brk, .int .i64 d.law.on, .int .i64 d.law.off, .int .i64 d.law.least, .int .i64 d.law.pieces, .slice A1 d.blocks.length c1, .slice A2 d.walk.length c2] 27 (0, 0)))
  have Hda := Lib.hid hda
  have Hl := Lib.hid hl
  clear hl hv
  clear hda
  go_enter Tryz.func4, Tryz.ntmps4
  have gc := box_cells G0.out
  have gf := box_frozen G0.out
  go_wp2_with fail
  refine (Gives.to Hl.out (Thin_any d _ _ _ (Hda.out.below hw0))).mono ?_
  rintro e w1 ⟨rfl, hb1⟩
  have hw1 := hw0.trans (hb1.mono hw0.size)
  have G1 := Lib.hid (box_step hb1 G0.out)
  replace gc := box_cells G1.out
  replace gf := box_frozen G1.out
  go_wp2_with fail
  refine (wakes_any _).mono ?_
  rintro e w2 ⟨rfl, hb2⟩
  have hw2 := hw1.trans (hb2.mono hw1.size)
  have G2 := Lib.hid (box_step hb2 G1.out)
  replace gc := box_cells G2.out
  replace gf := box_frozen G2.out
  go_wp2
  go_ret
  exact ⟨rfl, hw2⟩
set_option maxRecDepth 100000 in
set_option maxHeartbeats 6400000 in
theorem Legal_fault (d : DDay) (u z v : Value) (l : List Int) (w : World) (hda : DayAt w u z d) (hv : NumsAt .i64 w v l) (hl : thinD d = true) (hn : l.length ≤ 14) (hf : faultD d ≠ 0) :
    Calls Tryz.prog 4 #[.agg #[.int .i64 d.law.piece, .int .i64 d.law.drive, .int .i64 d.law.spread, .int .i64 d.law.brk, .int .i64 d.law.on, .int .i64 d.law.off, .int .i64 d.law.least, .int .i64 d.law.pieces, u, z], v] w (Gives w (.bool true)) := by
  obtain ⟨A3, c3, rfl, hc3, hm3⟩ := hv.form
  have hm := thin_mild hl
  have hnI : ¬ (14 : Int) < (l.length : Int) := by omega
  have hA : askE d l = faultD d := by unfold askE; rw [if_pos (by simpa using hf)]
  have hAb : (askE d l == 0) = false := by rw [hA]; simpa using hf
  have hL : legalQ d l = false := by unfold legalQ; rw [hAb]; rfl
  have HP := Lib.hid (show payQ d l = 0 by unfold payQ; rw [hL]; rfl)
  have HE := Lib.hid (show payE d l = faultD d by unfold payE; rw [hAb, hA]; rfl)
  have HL := Lib.hid hL
  have HA := Lib.hid hA
  clear hA hAb hL
  generalize hF : faultD d = F at *
  have HF := Lib.hid hF
  clear hF
  have hF0 : (F == 0) = false := by simpa using hf
  have HGLegal := Lib.hid (show ∀ (u z v : Value) (w' : World), DayAt w' u z d → NumsAt .i64 w' v l → Calls Tryz.prog 21 #[.agg #[.int .i64 d.law.piece, .int .i64 d.law.drive, .int .i64 d.law.spread, .int .i64 d.law.brk, .int .i64 d.law.on, .int .i64 d.law.off, .int .i64 d.law.least, .int .i64 d.law.pieces, u, z], v] w' (Gives w' (.tuple #[.bool false, .int .i64 F])) from by
    intro u z v w' h1 h2
    have h := Legal_any d u z v l w' h1 hm h2 (by omega)
    rw [HL.out, HA.out] at h
    exact h)
  have HGPay := Lib.hid (show ∀ (u z v : Value) (w' : World), DayAt w' u z d → NumsAt .i64 w' v l → Calls Tryz.prog 22 #[.agg #[.int .i64 d.law.piece, .int .i64 d.law.drive, .int .i64 d.law.spread, .int .i64 d.law.brk, .int .i64 d.law.on, .int .i64 d.law.off, .int .i64 d.law.least, .int .i64 d.law.pieces, u, z], v] w' (Gives w' (.tuple #[.int .i64 0, .int .i64 F])) from by
    intro u z v w' h1 h2
    have h := Pay_any d u z v l w' h1 hm h2 (by omega)
    rw [HP.out, HE.out] at h
    exact h)
  generalize hLn : l.length = n at *
  have HLn := Lib.hid hLn
  clear hLn
  obtain ⟨A1, c1, rfl, _, _⟩ := hda.blocks.form
  obtain ⟨A2, c2, rfl, _, _⟩ := hda.walk.form
  have hw0 : Below w.heap.size w (w.alloc (.cells #[.int .i64 d.law.piece, .int .i64 d.law.drive, .int .i64 d.law.spread, .int .i64 d.law.brk, .int .i64 d.law.on, .int .i64 d.law.off, .int .i64 d.law.least, .int .i64 d.law.pieces, .slice A1 d.blocks.length c1, .slice A2 d.walk.length c2] 27)) := (Below.refl _ _).alloc (Nat.le_refl _) _
  have G0 := Lib.hid (heap_alloc_new w (.cells #[.int .i64 d.law.piece, .int .i64 d.law.drive, .int .i64 d.law.spread, .int .i64 d.law.brk, .int .i64 d.law.on, .int .i64 d.law.off, .int .i64 d.law.least, .int .i64 d.law.pieces, .slice A1 d.blocks.length c1, .slice A2 d.walk.length c2] 27 (0, 0)))
  have Hda := Lib.hid hda
  have Hl := Lib.hid hl
  have Hv := Lib.hid hv
  clear hl hv
  clear hda
  go_enter Tryz.func4, Tryz.ntmps4
  have gc := box_cells G0.out
  have gf := box_frozen G0.out
  go_wp2_with fail
  refine (Gives.to Hl.out (Thin_any d _ _ _ (Hda.out.below hw0))).mono ?_
  rintro e w1 ⟨rfl, hb1⟩
  have hw1 := hw0.trans (hb1.mono hw0.size)
  have G1 := Lib.hid (box_step hb1 G0.out)
  replace gc := box_cells G1.out
  replace gf := box_frozen G1.out
  go_wp2_with fail
  refine (DayC_any d _ _ _ (Hda.out.below hw1) hm).mono ?_
  rintro e w2 ⟨B12, B22, e12, e22, rfl, hd2, hb2⟩
  have hw2 := hw1.trans (hb2.mono hw1.size)
  have G2 := Lib.hid (box_step hb2 G1.out)
  replace gc := box_cells G2.out
  replace gf := box_frozen G2.out
  go_wp2_with fail
  refine (HF.out ▸ CheckDay_any d _ _ _ hd2 hm).mono ?_
  rintro e w3 ⟨rfl, hb3⟩
  have hw3 := hw2.trans (hb3.mono hw2.size)
  have G3 := Lib.hid (box_step hb3 G2.out)
  replace gc := box_cells G3.out
  replace gf := box_frozen G3.out
  clear hd2
  go_wp2_with fail
  refine (DayC_any d _ _ _ (Hda.out.below hw3) hm).mono ?_
  rintro e w4 ⟨B14, B24, e14, e24, rfl, hd4, hb4⟩
  have hw4 := hw3.trans (hb4.mono hw3.size)
  have G4 := Lib.hid (box_step hb4 G3.out)
  replace gc := box_cells G4.out
  replace gf := box_frozen G4.out
  go_wp2_with fail
  refine (copy_any _ l _ (Hv.out.below hw4) (by rw [HLn.out]; omega)).mono ?_
  rintro e w5 ⟨A45, c45, rfl, ho5, hb5⟩
  have hw5 := hw4.trans (hb5.mono hw4.size)
  have G5 := Lib.hid (box_step hb5 G4.out)
  replace gc := box_cells G5.out
  replace gf := box_frozen G5.out
  have hn5 := nums_of_own (K := .i64) ho5
  have hd4b := hd4.below hb5
  clear ho5
  rw [HLn.out] at hn5 ⊢
  go_wp2_with fail
  refine (HGLegal.out _ _ _ _ hd4b hn5).mono ?_
  rintro e w6 ⟨rfl, hb6⟩
  have hw6 := hw5.trans (hb6.mono hw5.size)
  have G6 := Lib.hid (box_step hb6 G5.out)
  replace gc := box_cells G6.out
  replace gf := box_frozen G6.out
  clear hd4 hd4b hn5
  go_wp2_with fail
  refine (DayC_any d _ _ _ (Hda.out.below hw6) hm).mono ?_
  rintro e w7 ⟨B17, B27, e17, e27, rfl, hd7, hb7⟩
  have hw7 := hw6.trans (hb7.mono hw6.size)
  have G7 := Lib.hid (box_step hb7 G6.out)
  replace gc := box_cells G7.out
  replace gf := box_frozen G7.out
  go_wp2_with fail
  refine (copy_any _ l _ (Hv.out.below hw7) (by rw [HLn.out]; omega)).mono ?_
  rintro e w8 ⟨A48, c48, rfl, ho8, hb8⟩
  have hw8 := hw7.trans (hb8.mono hw7.size)
  have G8 := Lib.hid (box_step hb8 G7.out)
  replace gc := box_cells G8.out
  replace gf := box_frozen G8.out
  have hn8 := nums_of_own (K := .i64) ho8
  have hd7b := hd7.below hb8
  clear ho8
  rw [HLn.out] at hn8 ⊢
  go_wp2_with fail
  refine (HGPay.out _ _ _ _ hd7b hn8).mono ?_
  rintro e w9 ⟨rfl, hb9⟩
  have hw9 := hw8.trans (hb9.mono hw8.size)
  have G9 := Lib.hid (box_step hb9 G8.out)
  replace gc := box_cells G9.out
  replace gf := box_frozen G9.out
  clear hd7 hd7b hn8
  go_wp2_with fail
  refine (HF.out ▸ fault_any d _ _ _ (Hda.out.below hw9) hm).mono ?_
  rintro e w10 ⟨rfl, hb10⟩
  have hw10 := hw9.trans (hb10.mono hw9.size)
  have G10 := Lib.hid (box_step hb10 G9.out)
  replace gc := box_cells G10.out
  replace gf := box_frozen G10.out
  go_wp2_with fail
  refine (wakes_any _).mono ?_
  rintro e w11 ⟨rfl, hb11⟩
  have hw11 := hw10.trans (hb11.mono hw10.size)
  have G11 := Lib.hid (box_step hb11 G10.out)
  replace gc := box_cells G11.out
  replace gf := box_frozen G11.out
  go_wp2
  go_ret
  exact ⟨rfl, hw11⟩
set_option maxRecDepth 100000 in
set_option maxHeartbeats 6400000 in
theorem Legal_range (d : DDay) (u z v : Value) (l : List Int) (w : World) (hda : DayAt w u z d) (hv : NumsAt .i64 w v l) (hl : thinD d = true) (hn : l.length ≤ 14) (hf : faultD d = 0) (hD : dutyB (segN d.blocks) l = false) :
    Calls Tryz.prog 4 #[.agg #[.int .i64 d.law.piece, .int .i64 d.law.drive, .int .i64 d.law.spread, .int .i64 d.law.brk, .int .i64 d.law.on, .int .i64 d.law.off, .int .i64 d.law.least, .int .i64 d.law.pieces, u, z], v] w (Gives w (.bool true)) := by
  obtain ⟨A3, c3, rfl, hc3, hm3⟩ := hv.form
  have hm := thin_mild hl
  have hnI : ¬ (14 : Int) < (l.length : Int) := by omega
  have hf' : (faultD d != 0) = false := by rw [hf]; rfl
  have hok := fault_ok hf'
  have hA : askE d l = (if dutyB (segN d.blocks) l then 0 else 2) := by unfold askE; rw [if_neg (by rw [hf']; simp)]
  have HF := Lib.hid hf
  rw [hD] at hA
  have hA2 : askE d l = 2 := hA
  have hAb : (askE d l == 0) = false := by rw [hA2]; rfl
  have hL : legalQ d l = false := by unfold legalQ; rw [hAb]; rfl
  have HP := Lib.hid (show payQ d l = 0 by unfold payQ; rw [hL]; rfl)
  have HE := Lib.hid (show payE d l = 2 by unfold payE; rw [hAb, hA2]; rfl)
  have HL := Lib.hid hL
  have HA := Lib.hid hA2
  have HD := Lib.hid hD
  have HGIs := Lib.hid (show ∀ (u z v : Value) (w' : World), DayAt w' u z d → NumsAt .i64 w' v l → Calls Tryz.prog 23 #[.agg #[.int .i64 d.law.piece, .int .i64 d.law.drive, .int .i64 d.law.spread, .int .i64 d.law.brk, .int .i64 d.law.on, .int .i64 d.law.off, .int .i64 d.law.least, .int .i64 d.law.pieces, u, z], v] w' (Gives w' (.bool false)) from by
    intro u z v w' h1 h2
    have h := IsDuty_any d u z v l w' h1 hok h2 (by omega)
    rw [HD.out] at h
    exact h)
  clear hA hA2 hAb hL hD hf hf' hok
  have HGLegal := Lib.hid (show ∀ (u z v : Value) (w' : World), DayAt w' u z d → NumsAt .i64 w' v l → Calls Tryz.prog 21 #[.agg #[.int .i64 d.law.piece, .int .i64 d.law.drive, .int .i64 d.law.spread, .int .i64 d.law.brk, .int .i64 d.law.on, .int .i64 d.law.off, .int .i64 d.law.least, .int .i64 d.law.pieces, u, z], v] w' (Gives w' (.tuple #[.bool false, .int .i64 2])) from by
    intro u z v w' h1 h2
    have h := Legal_any d u z v l w' h1 hm h2 (by omega)
    rw [HL.out, HA.out] at h
    exact h)
  have HGPay := Lib.hid (show ∀ (u z v : Value) (w' : World), DayAt w' u z d → NumsAt .i64 w' v l → Calls Tryz.prog 22 #[.agg #[.int .i64 d.law.piece, .int .i64 d.law.drive, .int .i64 d.law.spread, .int .i64 d.law.brk, .int .i64 d.law.on, .int .i64 d.law.off, .int .i64 d.law.least, .int .i64 d.law.pieces, u, z], v] w' (Gives w' (.tuple #[.int .i64 0, .int .i64 2])) from by
    intro u z v w' h1 h2
    have h := Pay_any d u z v l w' h1 hm h2 (by omega)
    rw [HP.out, HE.out] at h
    exact h)
  generalize hLn : l.length = n at *
  have HLn := Lib.hid hLn
  clear hLn
  obtain ⟨A1, c1, rfl, _, _⟩ := hda.blocks.form
  obtain ⟨A2, c2, rfl, _, _⟩ := hda.walk.form
  have hw0 : Below w.heap.size w (w.alloc (.cells #[.int .i64 d.law.piece, .int .i64 d.law.drive, .int .i64 d.law.spread, .int .i64 d.law.brk, .int .i64 d.law.on, .int .i64 d.law.off, .int .i64 d.law.least, .int .i64 d.law.pieces, .slice A1 d.blocks.length c1, .slice A2 d.walk.length c2] 27)) := (Below.refl _ _).alloc (Nat.le_refl _) _
  have G0 := Lib.hid (heap_alloc_new w (.cells #[.int .i64 d.law.piece, .int .i64 d.law.drive, .int .i64 d.law.spread, .int .i64 d.law.brk, .int .i64 d.law.on, .int .i64 d.law.off, .int .i64 d.law.least, .int .i64 d.law.pieces, .slice A1 d.blocks.length c1, .slice A2 d.walk.length c2] 27 (0, 0)))
  have Hda := Lib.hid hda
  have Hl := Lib.hid hl
  have Hv := Lib.hid hv
  clear hl hv
  clear hda
  go_enter Tryz.func4, Tryz.ntmps4
  have gc := box_cells G0.out
  have gf := box_frozen G0.out
  go_wp2_with fail
  refine (Gives.to Hl.out (Thin_any d _ _ _ (Hda.out.below hw0))).mono ?_
  rintro e w1 ⟨rfl, hb1⟩
  have hw1 := hw0.trans (hb1.mono hw0.size)
  have G1 := Lib.hid (box_step hb1 G0.out)
  replace gc := box_cells G1.out
  replace gf := box_frozen G1.out
  go_wp2_with fail
  refine (DayC_any d _ _ _ (Hda.out.below hw1) hm).mono ?_
  rintro e w2 ⟨B12, B22, e12, e22, rfl, hd2, hb2⟩
  have hw2 := hw1.trans (hb2.mono hw1.size)
  have G2 := Lib.hid (box_step hb2 G1.out)
  replace gc := box_cells G2.out
  replace gf := box_frozen G2.out
  go_wp2_with fail
  refine (HF.out ▸ CheckDay_any d _ _ _ hd2 hm).mono ?_
  rintro e w3 ⟨rfl, hb3⟩
  have hw3 := hw2.trans (hb3.mono hw2.size)
  have G3 := Lib.hid (box_step hb3 G2.out)
  replace gc := box_cells G3.out
  replace gf := box_frozen G3.out
  clear hd2
  go_wp2_with fail
  refine (DayC_any d _ _ _ (Hda.out.below hw3) hm).mono ?_
  rintro e w4 ⟨B14, B24, e14, e24, rfl, hd4, hb4⟩
  have hw4 := hw3.trans (hb4.mono hw3.size)
  have G4 := Lib.hid (box_step hb4 G3.out)
  replace gc := box_cells G4.out
  replace gf := box_frozen G4.out
  go_wp2_with fail
  refine (copy_any _ l _ (Hv.out.below hw4) (by rw [HLn.out]; omega)).mono ?_
  rintro e w5 ⟨A45, c45, rfl, ho5, hb5⟩
  have hw5 := hw4.trans (hb5.mono hw4.size)
  have G5 := Lib.hid (box_step hb5 G4.out)
  replace gc := box_cells G5.out
  replace gf := box_frozen G5.out
  have hn5 := nums_of_own (K := .i64) ho5
  have hd4b := hd4.below hb5
  clear ho5
  rw [HLn.out] at hn5 ⊢
  go_wp2_with fail
  refine (HGLegal.out _ _ _ _ hd4b hn5).mono ?_
  rintro e w6 ⟨rfl, hb6⟩
  have hw6 := hw5.trans (hb6.mono hw5.size)
  have G6 := Lib.hid (box_step hb6 G5.out)
  replace gc := box_cells G6.out
  replace gf := box_frozen G6.out
  clear hd4 hd4b hn5
  go_wp2_with fail
  refine (DayC_any d _ _ _ (Hda.out.below hw6) hm).mono ?_
  rintro e w7 ⟨B17, B27, e17, e27, rfl, hd7, hb7⟩
  have hw7 := hw6.trans (hb7.mono hw6.size)
  have G7 := Lib.hid (box_step hb7 G6.out)
  replace gc := box_cells G7.out
  replace gf := box_frozen G7.out
  go_wp2_with fail
  refine (copy_any _ l _ (Hv.out.below hw7) (by rw [HLn.out]; omega)).mono ?_
  rintro e w8 ⟨A48, c48, rfl, ho8, hb8⟩
  have hw8 := hw7.trans (hb8.mono hw7.size)
  have G8 := Lib.hid (box_step hb8 G7.out)
  replace gc := box_cells G8.out
  replace gf := box_frozen G8.out
  have hn8 := nums_of_own (K := .i64) ho8
  have hd7b := hd7.below hb8
  clear ho8
  rw [HLn.out] at hn8 ⊢
  go_wp2_with fail
  refine (HGPay.out _ _ _ _ hd7b hn8).mono ?_
  rintro e w9 ⟨rfl, hb9⟩
  have hw9 := hw8.trans (hb9.mono hw8.size)
  have G9 := Lib.hid (box_step hb9 G8.out)
  replace gc := box_cells G9.out
  replace gf := box_frozen G9.out
  clear hd7 hd7b hn8
  go_wp2_with fail
  refine (HF.out ▸ fault_any d _ _ _ (Hda.out.below hw9) hm).mono ?_
  rintro e w10 ⟨rfl, hb10⟩
  have hw10 := hw9.trans (hb10.mono hw9.size)
  have G10 := Lib.hid (box_step hb10 G9.out)
  replace gc := box_cells G10.out
  replace gf := box_frozen G10.out
  go_wp2_with fail
  refine (HGIs.out _ _ _ _ (Hda.out.below hw10) (Hv.out.below hw10)).mono ?_
  rintro e w11 ⟨rfl, hb11⟩
  have hw11 := hw10.trans (hb11.mono hw10.size)
  have G11 := Lib.hid (box_step hb11 G10.out)
  replace gc := box_cells G11.out
  replace gf := box_frozen G11.out
  go_wp2_with fail
  refine (wakes_any _).mono ?_
  rintro e w12 ⟨rfl, hb12⟩
  have hw12 := hw11.trans (hb12.mono hw11.size)
  have G12 := Lib.hid (box_step hb12 G11.out)
  replace gc := box_cells G12.out
  replace gf := box_frozen G12.out
  go_wp2
  go_ret
  exact ⟨rfl, hw12⟩
set_option maxRecDepth 100000 in
set_option maxHeartbeats 6400000 in
theorem Legal_law_no (d : DDay) (u z v : Value) (l : List Int) (w : World) (hda : DayAt w u z d) (hv : NumsAt .i64 w v l) (hl : thinD d = true) (hn : l.length ≤ 14) (hf : faultD d = 0) (hD : dutyB (segN d.blocks) l = true) (hQ : legalL d (natsOf l) = false) :
    Calls Tryz.prog 4 #[.agg #[.int .i64 d.law.piece, .int .i64 d.law.drive, .int .i64 d.law.spread, .int .i64 d.law.brk, .int .i64 d.law.on, .int .i64 d.law.off, .int .i64 d.law.least, .int .i64 d.law.pieces, u, z], v] w (Gives w (.bool true)) := by
  obtain ⟨A3, c3, rfl, hc3, hm3⟩ := hv.form
  have hm := thin_mild hl
  have hnI : ¬ (14 : Int) < (l.length : Int) := by omega
  have hf' : (faultD d != 0) = false := by rw [hf]; rfl
  have hok := fault_ok hf'
  have hA : askE d l = (if dutyB (segN d.blocks) l then 0 else 2) := by unfold askE; rw [if_neg (by rw [hf']; simp)]
  have HF := Lib.hid hf
  rw [hD] at hA
  have hA2 : askE d l = 0 := hA
  have hAb : (askE d l == 0) = true := by rw [hA2]; rfl
  obtain ⟨hnl, hdu⟩ := dutyI_iff.1 (dutyB_iff.1 hD)
  have HD := Lib.hid hD
  have HA := Lib.hid hA2
  have HQ := Lib.hid hQ
  have HGIs := Lib.hid (show ∀ (u z v : Value) (w' : World), DayAt w' u z d → NumsAt .i64 w' v l → Calls Tryz.prog 23 #[.agg #[.int .i64 d.law.piece, .int .i64 d.law.drive, .int .i64 d.law.spread, .int .i64 d.law.brk, .int .i64 d.law.on, .int .i64 d.law.off, .int .i64 d.law.least, .int .i64 d.law.pieces, u, z], v] w' (Gives w' (.bool true)) from by
    intro u z v w' h1 h2
    have h := IsDuty_any d u z v l w' h1 hok h2 (by omega)
    rw [HD.out] at h
    exact h)
  have hL : legalQ d l = false := by unfold legalQ; rw [hAb, hQ]; rfl
  have HP := Lib.hid (show payQ d l = 0 by unfold payQ; rw [hL]; rfl)
  have HE := Lib.hid (show payE d l = 10 by unfold payE; rw [hAb, hQ]; rfl)
  have HL := Lib.hid hL
  have HGLegalR := Lib.hid (show ∀ (u z v : Value) (w' : World), DayAt w' u z d → NumsAt .i64 w' v l → Calls Tryz.prog 24 #[.agg #[.int .i64 d.law.piece, .int .i64 d.law.drive, .int .i64 d.law.spread, .int .i64 d.law.brk, .int .i64 d.law.on, .int .i64 d.law.off, .int .i64 d.law.least, .int .i64 d.law.pieces, u, z], v] w' (Gives w' (.bool false)) from by
    intro u z v w' h1 h2
    have h := Legal_ref d u z v (natsOf l) w' h1 hok (by rw [← hnl]; exact h2) hdu
    rw [HQ.out] at h
    exact h)
  clear hA hA2 hAb hL hD hQ hf hf' hok hdu hnl
  have HGLegal := Lib.hid (show ∀ (u z v : Value) (w' : World), DayAt w' u z d → NumsAt .i64 w' v l → Calls Tryz.prog 21 #[.agg #[.int .i64 d.law.piece, .int .i64 d.law.drive, .int .i64 d.law.spread, .int .i64 d.law.brk, .int .i64 d.law.on, .int .i64 d.law.off, .int .i64 d.law.least, .int .i64 d.law.pieces, u, z], v] w' (Gives w' (.tuple #[.bool false, .int .i64 0])) from by
    intro u z v w' h1 h2
    have h := Legal_any d u z v l w' h1 hm h2 (by omega)
    rw [HL.out, HA.out] at h
    exact h)
  have HGPay := Lib.hid (show ∀ (u z v : Value) (w' : World), DayAt w' u z d → NumsAt .i64 w' v l → Calls Tryz.prog 22 #[.agg #[.int .i64 d.law.piece, .int .i64 d.law.drive, .int .i64 d.law.spread, .int .i64 d.law.brk, .int .i64 d.law.on, .int .i64 d.law.off, .int .i64 d.law.least, .int .i64 d.law.pieces, u, z], v] w' (Gives w' (.tuple #[.int .i64 0, .int .i64 10])) from by
    intro u z v w' h1 h2
    have h := Pay_any d u z v l w' h1 hm h2 (by omega)
    rw [HP.out, HE.out] at h
    exact h)
  generalize hLn : l.length = n at *
  have HLn := Lib.hid hLn
  clear hLn
  obtain ⟨A1, c1, rfl, _, _⟩ := hda.blocks.form
  obtain ⟨A2, c2, rfl, _, _⟩ := hda.walk.form
  have hw0 : Below w.heap.size w (w.alloc (.cells #[.int .i64 d.law.piece, .int .i64 d.law.drive, .int .i64 d.law.spread, .int .i64 d.law.brk, .int .i64 d.law.on, .int .i64 d.law.off, .int .i64 d.law.least, .int .i64 d.law.pieces, .slice A1 d.blocks.length c1, .slice A2 d.walk.length c2] 27)) := (Below.refl _ _).alloc (Nat.le_refl _) _
  have G0 := Lib.hid (heap_alloc_new w (.cells #[.int .i64 d.law.piece, .int .i64 d.law.drive, .int .i64 d.law.spread, .int .i64 d.law.brk, .int .i64 d.law.on, .int .i64 d.law.off, .int .i64 d.law.least, .int .i64 d.law.pieces, .slice A1 d.blocks.length c1, .slice A2 d.walk.length c2] 27 (0, 0)))
  have Hda := Lib.hid hda
  have Hl := Lib.hid hl
  have Hv := Lib.hid hv
  clear hl hv
  clear hda
  go_enter Tryz.func4, Tryz.ntmps4
  have gc := box_cells G0.out
  have gf := box_frozen G0.out
  go_wp2_with fail
  refine (Gives.to Hl.out (Thin_any d _ _ _ (Hda.out.below hw0))).mono ?_
  rintro e w1 ⟨rfl, hb1⟩
  have hw1 := hw0.trans (hb1.mono hw0.size)
  have G1 := Lib.hid (box_step hb1 G0.out)
  replace gc := box_cells G1.out
  replace gf := box_frozen G1.out
  go_wp2_with fail
  refine (DayC_any d _ _ _ (Hda.out.below hw1) hm).mono ?_
  rintro e w2 ⟨B12, B22, e12, e22, rfl, hd2, hb2⟩
  have hw2 := hw1.trans (hb2.mono hw1.size)
  have G2 := Lib.hid (box_step hb2 G1.out)
  replace gc := box_cells G2.out
  replace gf := box_frozen G2.out
  go_wp2_with fail
  refine (HF.out ▸ CheckDay_any d _ _ _ hd2 hm).mono ?_
  rintro e w3 ⟨rfl, hb3⟩
  have hw3 := hw2.trans (hb3.mono hw2.size)
  have G3 := Lib.hid (box_step hb3 G2.out)
  replace gc := box_cells G3.out
  replace gf := box_frozen G3.out
  clear hd2
  go_wp2_with fail
  refine (DayC_any d _ _ _ (Hda.out.below hw3) hm).mono ?_
  rintro e w4 ⟨B14, B24, e14, e24, rfl, hd4, hb4⟩
  have hw4 := hw3.trans (hb4.mono hw3.size)
  have G4 := Lib.hid (box_step hb4 G3.out)
  replace gc := box_cells G4.out
  replace gf := box_frozen G4.out
  go_wp2_with fail
  refine (copy_any _ l _ (Hv.out.below hw4) (by rw [HLn.out]; omega)).mono ?_
  rintro e w5 ⟨A45, c45, rfl, ho5, hb5⟩
  have hw5 := hw4.trans (hb5.mono hw4.size)
  have G5 := Lib.hid (box_step hb5 G4.out)
  replace gc := box_cells G5.out
  replace gf := box_frozen G5.out
  have hn5 := nums_of_own (K := .i64) ho5
  have hd4b := hd4.below hb5
  clear ho5
  rw [HLn.out] at hn5 ⊢
  go_wp2_with fail
  refine (HGLegal.out _ _ _ _ hd4b hn5).mono ?_
  rintro e w6 ⟨rfl, hb6⟩
  have hw6 := hw5.trans (hb6.mono hw5.size)
  have G6 := Lib.hid (box_step hb6 G5.out)
  replace gc := box_cells G6.out
  replace gf := box_frozen G6.out
  clear hd4 hd4b hn5
  go_wp2_with fail
  refine (DayC_any d _ _ _ (Hda.out.below hw6) hm).mono ?_
  rintro e w7 ⟨B17, B27, e17, e27, rfl, hd7, hb7⟩
  have hw7 := hw6.trans (hb7.mono hw6.size)
  have G7 := Lib.hid (box_step hb7 G6.out)
  replace gc := box_cells G7.out
  replace gf := box_frozen G7.out
  go_wp2_with fail
  refine (copy_any _ l _ (Hv.out.below hw7) (by rw [HLn.out]; omega)).mono ?_
  rintro e w8 ⟨A48, c48, rfl, ho8, hb8⟩
  have hw8 := hw7.trans (hb8.mono hw7.size)
  have G8 := Lib.hid (box_step hb8 G7.out)
  replace gc := box_cells G8.out
  replace gf := box_frozen G8.out
  have hn8 := nums_of_own (K := .i64) ho8
  have hd7b := hd7.below hb8
  clear ho8
  rw [HLn.out] at hn8 ⊢
  go_wp2_with fail
  refine (HGPay.out _ _ _ _ hd7b hn8).mono ?_
  rintro e w9 ⟨rfl, hb9⟩
  have hw9 := hw8.trans (hb9.mono hw8.size)
  have G9 := Lib.hid (box_step hb9 G8.out)
  replace gc := box_cells G9.out
  replace gf := box_frozen G9.out
  clear hd7 hd7b hn8
  go_wp2_with fail
  refine (HF.out ▸ fault_any d _ _ _ (Hda.out.below hw9) hm).mono ?_
  rintro e w10 ⟨rfl, hb10⟩
  have hw10 := hw9.trans (hb10.mono hw9.size)
  have G10 := Lib.hid (box_step hb10 G9.out)
  replace gc := box_cells G10.out
  replace gf := box_frozen G10.out
  go_wp2_with fail
  refine (HGIs.out _ _ _ _ (Hda.out.below hw10) (Hv.out.below hw10)).mono ?_
  rintro e w11 ⟨rfl, hb11⟩
  have hw11 := hw10.trans (hb11.mono hw10.size)
  have G11 := Lib.hid (box_step hb11 G10.out)
  replace gc := box_cells G11.out
  replace gf := box_frozen G11.out
  go_wp2_with fail
  refine (HGLegalR.out _ _ _ _ (Hda.out.below hw11) (Hv.out.below hw11)).mono ?_
  rintro e w12 ⟨rfl, hb12⟩
  have hw12 := hw11.trans (hb12.mono hw11.size)
  have G12 := Lib.hid (box_step hb12 G11.out)
  replace gc := box_cells G12.out
  replace gf := box_frozen G12.out
  go_wp2_with fail
  refine (wakes_any _).mono ?_
  rintro e w13 ⟨rfl, hb13⟩
  have hw13 := hw12.trans (hb13.mono hw12.size)
  have G13 := Lib.hid (box_step hb13 G12.out)
  replace gc := box_cells G13.out
  replace gf := box_frozen G13.out
  go_wp2
  go_ret
  exact ⟨rfl, hw13⟩
set_option maxRecDepth 100000 in
set_option maxHeartbeats 6400000 in
theorem Legal_law_yes (d : DDay) (u z v : Value) (l : List Int) (w : World) (hda : DayAt w u z d) (hv : NumsAt .i64 w v l) (hl : thinD d = true) (hn : l.length ≤ 14) (hf : faultD d = 0) (hD : dutyB (segN d.blocks) l = true) (hQ : legalL d (natsOf l) = true) :
    Calls Tryz.prog 4 #[.agg #[.int .i64 d.law.piece, .int .i64 d.law.drive, .int .i64 d.law.spread, .int .i64 d.law.brk, .int .i64 d.law.on, .int .i64 d.law.off, .int .i64 d.law.least, .int .i64 d.law.pieces, u, z], v] w (Gives w (.bool true)) := by
  obtain ⟨A3, c3, rfl, hc3, hm3⟩ := hv.form
  have hm := thin_mild hl
  have hnI : ¬ (14 : Int) < (l.length : Int) := by omega
  have hf' : (faultD d != 0) = false := by rw [hf]; rfl
  have hok := fault_ok hf'
  have hA : askE d l = (if dutyB (segN d.blocks) l then 0 else 2) := by unfold askE; rw [if_neg (by rw [hf']; simp)]
  have HF := Lib.hid hf
  rw [hD] at hA
  have hA2 : askE d l = 0 := hA
  have hAb : (askE d l == 0) = true := by rw [hA2]; rfl
  obtain ⟨hnl, hdu⟩ := dutyI_iff.1 (dutyB_iff.1 hD)
  have HD := Lib.hid hD
  have HA := Lib.hid hA2
  have HQ := Lib.hid hQ
  have HGIs := Lib.hid (show ∀ (u z v : Value) (w' : World), DayAt w' u z d → NumsAt .i64 w' v l → Calls Tryz.prog 23 #[.agg #[.int .i64 d.law.piece, .int .i64 d.law.drive, .int .i64 d.law.spread, .int .i64 d.law.brk, .int .i64 d.law.on, .int .i64 d.law.off, .int .i64 d.law.least, .int .i64 d.law.pieces, u, z], v] w' (Gives w' (.bool true)) from by
    intro u z v w' h1 h2
    have h := IsDuty_any d u z v l w' h1 hok h2 (by omega)
    rw [HD.out] at h
    exact h)
  have hL : legalQ d l = true := by unfold legalQ; rw [hAb, hQ]; rfl
  have hP : payQ d l = payL d (natsOf l) := by unfold payQ; rw [hL]; rfl
  generalize hY : payL d (natsOf l) = Y at *
  have HY := Lib.hid hY
  have HP := Lib.hid hP
  have HE := Lib.hid (show payE d l = 0 by unfold payE; rw [hAb, hQ]; rfl)
  have HL := Lib.hid hL
  have HGLegalR := Lib.hid (show ∀ (u z v : Value) (w' : World), DayAt w' u z d → NumsAt .i64 w' v l → Calls Tryz.prog 24 #[.agg #[.int .i64 d.law.piece, .int .i64 d.law.drive, .int .i64 d.law.spread, .int .i64 d.law.brk, .int .i64 d.law.on, .int .i64 d.law.off, .int .i64 d.law.least, .int .i64 d.law.pieces, u, z], v] w' (Gives w' (.bool true)) from by
    intro u z v w' h1 h2
    have h := Legal_ref d u z v (natsOf l) w' h1 hok (by rw [← hnl]; exact h2) hdu
    rw [HQ.out] at h
    exact h)
  have HGPayR := Lib.hid (show ∀ (u z v : Value) (w' : World), DayAt w' u z d → NumsAt .i64 w' v l → Calls Tryz.prog 25 #[.agg #[.int .i64 d.law.piece, .int .i64 d.law.drive, .int .i64 d.law.spread, .int .i64 d.law.brk, .int .i64 d.law.on, .int .i64 d.law.off, .int .i64 d.law.least, .int .i64 d.law.pieces, u, z], v] w' (Gives w' (.int .i64 Y)) from by
    intro u z v w' h1 h2
    have h := Pay_ref d u z v (natsOf l) w' h1 hok (by rw [← hnl]; exact h2) hdu
    rw [HY.out] at h
    exact h)
  clear hA hA2 hAb hL hD hQ hf hf' hok hdu hnl hY hP
  have HGLegal := Lib.hid (show ∀ (u z v : Value) (w' : World), DayAt w' u z d → NumsAt .i64 w' v l → Calls Tryz.prog 21 #[.agg #[.int .i64 d.law.piece, .int .i64 d.law.drive, .int .i64 d.law.spread, .int .i64 d.law.brk, .int .i64 d.law.on, .int .i64 d.law.off, .int .i64 d.law.least, .int .i64 d.law.pieces, u, z], v] w' (Gives w' (.tuple #[.bool true, .int .i64 0])) from by
    intro u z v w' h1 h2
    have h := Legal_any d u z v l w' h1 hm h2 (by omega)
    rw [HL.out, HA.out] at h
    exact h)
  have HGPay := Lib.hid (show ∀ (u z v : Value) (w' : World), DayAt w' u z d → NumsAt .i64 w' v l → Calls Tryz.prog 22 #[.agg #[.int .i64 d.law.piece, .int .i64 d.law.drive, .int .i64 d.law.spread, .int .i64 d.law.brk, .int .i64 d.law.on, .int .i64 d.law.off, .int .i64 d.law.least, .int .i64 d.law.pieces, u, z], v] w' (Gives w' (.tuple #[.int .i64 Y, .int .i64 0])) from by
    intro u z v w' h1 h2
    have h := Pay_any d u z v l w' h1 hm h2 (by omega)
    rw [HP.out, HE.out] at h
    exact h)
  generalize hLn : l.length = n at *
  have HLn := Lib.hid hLn
  clear hLn
  obtain ⟨A1, c1, rfl, _, _⟩ := hda.blocks.form
  obtain ⟨A2, c2, rfl, _, _⟩ := hda.walk.form
  have hw0 : Below w.heap.size w (w.alloc (.cells #[.int .i64 d.law.piece, .int .i64 d.law.drive, .int .i64 d.law.spread, .int .i64 d.law.brk, .int .i64 d.law.on, .int .i64 d.law.off, .int .i64 d.law.least, .int .i64 d.law.pieces, .slice A1 d.blocks.length c1, .slice A2 d.walk.length c2] 27)) := (Below.refl _ _).alloc (Nat.le_refl _) _
  have G0 := Lib.hid (heap_alloc_new w (.cells #[.int .i64 d.law.piece, .int .i64 d.law.drive, .int .i64 d.law.spread, .int .i64 d.law.brk, .int .i64 d.law.on, .int .i64 d.law.off, .int .i64 d.law.least, .int .i64 d.law.pieces, .slice A1 d.blocks.length c1, .slice A2 d.walk.length c2] 27 (0, 0)))
  have Hda := Lib.hid hda
  have Hl := Lib.hid hl
  have Hv := Lib.hid hv
  clear hl hv
  clear hda
  go_enter Tryz.func4, Tryz.ntmps4
  have gc := box_cells G0.out
  have gf := box_frozen G0.out
  go_wp2_with fail
  refine (Gives.to Hl.out (Thin_any d _ _ _ (Hda.out.below hw0))).mono ?_
  rintro e w1 ⟨rfl, hb1⟩
  have hw1 := hw0.trans (hb1.mono hw0.size)
  have G1 := Lib.hid (box_step hb1 G0.out)
  replace gc := box_cells G1.out
  replace gf := box_frozen G1.out
  go_wp2_with fail
  refine (DayC_any d _ _ _ (Hda.out.below hw1) hm).mono ?_
  rintro e w2 ⟨B12, B22, e12, e22, rfl, hd2, hb2⟩
  have hw2 := hw1.trans (hb2.mono hw1.size)
  have G2 := Lib.hid (box_step hb2 G1.out)
  replace gc := box_cells G2.out
  replace gf := box_frozen G2.out
  go_wp2_with fail
  refine (HF.out ▸ CheckDay_any d _ _ _ hd2 hm).mono ?_
  rintro e w3 ⟨rfl, hb3⟩
  have hw3 := hw2.trans (hb3.mono hw2.size)
  have G3 := Lib.hid (box_step hb3 G2.out)
  replace gc := box_cells G3.out
  replace gf := box_frozen G3.out
  clear hd2
  go_wp2_with fail
  refine (DayC_any d _ _ _ (Hda.out.below hw3) hm).mono ?_
  rintro e w4 ⟨B14, B24, e14, e24, rfl, hd4, hb4⟩
  have hw4 := hw3.trans (hb4.mono hw3.size)
  have G4 := Lib.hid (box_step hb4 G3.out)
  replace gc := box_cells G4.out
  replace gf := box_frozen G4.out
  go_wp2_with fail
  refine (copy_any _ l _ (Hv.out.below hw4) (by rw [HLn.out]; omega)).mono ?_
  rintro e w5 ⟨A45, c45, rfl, ho5, hb5⟩
  have hw5 := hw4.trans (hb5.mono hw4.size)
  have G5 := Lib.hid (box_step hb5 G4.out)
  replace gc := box_cells G5.out
  replace gf := box_frozen G5.out
  have hn5 := nums_of_own (K := .i64) ho5
  have hd4b := hd4.below hb5
  clear ho5
  rw [HLn.out] at hn5 ⊢
  go_wp2_with fail
  refine (HGLegal.out _ _ _ _ hd4b hn5).mono ?_
  rintro e w6 ⟨rfl, hb6⟩
  have hw6 := hw5.trans (hb6.mono hw5.size)
  have G6 := Lib.hid (box_step hb6 G5.out)
  replace gc := box_cells G6.out
  replace gf := box_frozen G6.out
  clear hd4 hd4b hn5
  go_wp2_with fail
  refine (DayC_any d _ _ _ (Hda.out.below hw6) hm).mono ?_
  rintro e w7 ⟨B17, B27, e17, e27, rfl, hd7, hb7⟩
  have hw7 := hw6.trans (hb7.mono hw6.size)
  have G7 := Lib.hid (box_step hb7 G6.out)
  replace gc := box_cells G7.out
  replace gf := box_frozen G7.out
  go_wp2_with fail
  refine (copy_any _ l _ (Hv.out.below hw7) (by rw [HLn.out]; omega)).mono ?_
  rintro e w8 ⟨A48, c48, rfl, ho8, hb8⟩
  have hw8 := hw7.trans (hb8.mono hw7.size)
  have G8 := Lib.hid (box_step hb8 G7.out)
  replace gc := box_cells G8.out
  replace gf := box_frozen G8.out
  have hn8 := nums_of_own (K := .i64) ho8
  have hd7b := hd7.below hb8
  clear ho8
  rw [HLn.out] at hn8 ⊢
  go_wp2_with fail
  refine (HGPay.out _ _ _ _ hd7b hn8).mono ?_
  rintro e w9 ⟨rfl, hb9⟩
  have hw9 := hw8.trans (hb9.mono hw8.size)
  have G9 := Lib.hid (box_step hb9 G8.out)
  replace gc := box_cells G9.out
  replace gf := box_frozen G9.out
  clear hd7 hd7b hn8
  go_wp2_with fail
  refine (HF.out ▸ fault_any d _ _ _ (Hda.out.below hw9) hm).mono ?_
  rintro e w10 ⟨rfl, hb10⟩
  have hw10 := hw9.trans (hb10.mono hw9.size)
  have G10 := Lib.hid (box_step hb10 G9.out)
  replace gc := box_cells G10.out
  replace gf := box_frozen G10.out
  go_wp2_with fail
  refine (HGIs.out _ _ _ _ (Hda.out.below hw10) (Hv.out.below hw10)).mono ?_
  rintro e w11 ⟨rfl, hb11⟩
  have hw11 := hw10.trans (hb11.mono hw10.size)
  have G11 := Lib.hid (box_step hb11 G10.out)
  replace gc := box_cells G11.out
  replace gf := box_frozen G11.out
  go_wp2_with fail
  refine (HGLegalR.out _ _ _ _ (Hda.out.below hw11) (Hv.out.below hw11)).mono ?_
  rintro e w12 ⟨rfl, hb12⟩
  have hw12 := hw11.trans (hb12.mono hw11.size)
  have G12 := Lib.hid (box_step hb12 G11.out)
  replace gc := box_cells G12.out
  replace gf := box_frozen G12.out
  go_wp2_with fail
  refine (HGPayR.out _ _ _ _ (Hda.out.below hw12) (Hv.out.below hw12)).mono ?_
  rintro e w13 ⟨rfl, hb13⟩
  have hw13 := hw12.trans (hb13.mono hw12.size)
  have G13 := Lib.hid (box_step hb13 G12.out)
  replace gc := box_cells G13.out
  replace gf := box_frozen G13.out
  go_wp2_with fail
  refine (wakes_any _).mono ?_
  rintro e w14 ⟨rfl, hb14⟩
  have hw14 := hw13.trans (hb14.mono hw13.size)
  have G14 := Lib.hid (box_step hb14 G13.out)
  replace gc := box_cells G14.out
  replace gf := box_frozen G14.out
  go_wp2
  go_ret
  exact ⟨rfl, hw14⟩
theorem Legal_law (d : DDay) (u z v : Value) (l : List Int) (w : World) (hda : DayAt w u z d) (hv : NumsAt .i64 w v l) :
    Calls Tryz.prog 4 #[.agg #[.int .i64 d.law.piece, .int .i64 d.law.drive, .int .i64 d.law.spread, .int .i64 d.law.brk, .int .i64 d.law.on, .int .i64 d.law.off, .int .i64 d.law.least, .int .i64 d.law.pieces, u, z], v] w (Gives w (.bool true)) := by
  cases hl : thinD d with
  | false => exact Legal_thick d u z v l w hda hv hl
  | true =>
    by_cases hn : 14 < l.length
    · exact Legal_long d u z v l w hda hv hl hn
    have hn' : l.length ≤ 14 := by omega
    by_cases hf : faultD d = 0
    · cases hD : dutyB (segN d.blocks) l with
      | false => exact Legal_range d u z v l w hda hv hl hn' hf hD
      | true =>
        cases hQ : legalL d (natsOf l) with
        | false => exact Legal_law_no d u z v l w hda hv hl hn' hf hD hQ
        | true => exact Legal_law_yes d u z v l w hda hv hl hn' hf hD hQ
    · exact Legal_fault d u z v l w hda hv hl hn' hf
end Go.Proofs.YtllobkhdeahgpaaGreat
