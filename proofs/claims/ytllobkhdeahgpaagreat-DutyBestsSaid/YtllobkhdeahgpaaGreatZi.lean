import Derived.Test.YtllobkhdeahgpaaGreatZh
import Derived.Test.YtllobkhdeahgpaaGreatZa
set_option linter.unusedVariables false
set_option linter.unusedSimpArgs false
namespace Go.Proofs.YtllobkhdeahgpaaGreat
open Go Go.Proofs Go.RowKit

/-! ### DutyBests -/
theorem short_len {ll : List (List Int)} (h : shortB ll = true) : ll.length ≤ 12 ∧ ∀ (j : Nat) (l : List Int), ll[j]? = some l → l.length ≤ 14 := by
  unfold shortB at h
  simp only [Bool.and_eq_true, decide_eq_true_eq, List.all_eq_true] at h
  exact ⟨h.1, fun j l hl => h.2 l (List.mem_of_getElem? hl)⟩
theorem best_lens {d : DDay} (hd : DayOk d) (h : (bestV d).can = true) : ∀ (j : Nat) (l : List Int), ((bestP d).map natsI)[j]? = some l → l.length ≤ 1000 := fun j l hl => by
  rw [List.getElem?_map] at hl
  obtain ⟨D, hD, rfl⟩ := Option.map_eq_some_iff.1 hl
  have hn : segN d.blocks ≤ 16 := by have := hd.segs; omega
  have := duty_len ((best_plan hn h).duty D (List.mem_of_getElem? hD))
  rw [natsI_len]
  omega
theorem few_start {d : DDay} (hd : DayOk d) (f : Nat) (hf : f = 1100) : fewL d f [] = if (bestV d).can then ((bestV d).n, (bestV d).pay) else (-1, 0) := by
  have hn := hd.segs
  refine few_best (by omega) f ?_
  have h2 : 2 ^ segN d.blocks ≤ 1024 := Nat.pow_le_pow_right (n := 2) (by omega) hn
  unfold fullM
  omega
theorem Fewest_top (d : DDay) (hd : DayOk d) (u z vl : Value) (w : World) (hda : DayAt w u z d) (hvl : RowsAt w vl ((legalDs d).map natsI)) (f : Nat) (hf : f = 1100) (r1 r2 : Int) (hr : fewL d f [] = (r1, r2)) :
    Calls Tryz.prog 31 #[.agg #[.int .i64 d.law.piece, .int .i64 d.law.drive, .int .i64 d.law.spread, .int .i64 d.law.brk, .int .i64 d.law.on, .int .i64 d.law.off, .int .i64 d.law.least, .int .i64 d.law.pieces, u, z], vl, .slice none 0 0] w (Gives w (.tuple #[.int .i64 r1, .int .i64 r2])) := by
  have h := Fewest_any d hd f [] ?_ (by simp; omega) (by simp) u z vl (.slice none 0 0) w hda hvl ⟨none, 0, rfl, by simp, by simp [maxLen], by simp⟩
  · rw [hr] at h
    exact h
  rw [restM_nil]
  have hn := hd.segs
  have h2 : 2 ^ segN d.blocks ≤ 1024 := Nat.pow_le_pow_right (n := 2) (by omega) hn
  unfold fullM
  omega
set_option maxRecDepth 100000 in
set_option maxHeartbeats 800000 in
theorem Bests_thick (d : DDay) (u z v : Value) (ll : List (List Int)) (w : World) (hda : DayAt w u z d) (hv : RowsAt w v ll) (hl : thinD d = false) :
    Calls Tryz.prog 5 #[.agg #[.int .i64 d.law.piece, .int .i64 d.law.drive, .int .i64 d.law.spread, .int .i64 d.law.brk, .int .i64 d.law.on, .int .i64 d.law.off, .int .i64 d.law.least, .int .i64 d.law.pieces, u, z], v] w (Gives w (.bool true)) := by
  obtain ⟨A3, c3, rfl, hc3, hm3⟩ := hv.form
  obtain ⟨A1, c1, rfl, _, _⟩ := hda.blocks.form
  obtain ⟨A2, c2, rfl, _, _⟩ := hda.walk.form
  have hw0 : Below w.heap.size w (w.alloc (.cells #[.int .i64 d.law.piece, .int .i64 d.law.drive, .int .i64 d.law.spread, .int .i64 d.law.brk, .int .i64 d.law.on, .int .i64 d.law.off, .int .i64 d.law.least, .int .i64 d.law.pieces, .slice A1 d.blocks.length c1, .slice A2 d.walk.length c2] 27)) := (Below.refl _ _).alloc (Nat.le_refl _) _
  have G0 := Lib.hid (heap_alloc_new w (.cells #[.int .i64 d.law.piece, .int .i64 d.law.drive, .int .i64 d.law.spread, .int .i64 d.law.brk, .int .i64 d.law.on, .int .i64 d.law.off, .int .i64 d.law.least, .int .i64 d.law.pieces, .slice A1 d.blocks.length c1, .slice A2 d.walk.length c2] 27 (0, 0)))
  have Hda := Lib.hid hda
  have Hl := Lib.hid hl
  clear hl hv
  clear hda
  go_enter Tryz.func5, Tryz.ntmps5
  have gc := box_cells G0.out
  have gf := box_frozen G0.out
  go_wp2_with fail
  refine (Gives.to Hl.out (Thin_any d _ _ _ (Hda.out.below hw0))).mono ?_
  rintro e w1 ⟨rfl, hb1⟩
  have hw1 := hw0.trans (hb1.mono hw0.size)
  have G1 := Lib.hid (box_step hb1 G0.out)
  replace gc := box_cells G1.out
  replace gf := box_frozen G1.out
  go_wp2_with fail
  refine (wakes_any _).mono ?_
  rintro e w2 ⟨rfl, hb2⟩
  have hw2 := hw1.trans (hb2.mono hw1.size)
  have G2 := Lib.hid (box_step hb2 G1.out)
  replace gc := box_cells G2.out
  replace gf := box_frozen G2.out
  go_wp2
  go_ret
  exact ⟨rfl, hw2⟩
set_option maxRecDepth 100000 in
set_option maxHeartbeats 800000 in
theorem Bests_long (d : DDay) (u z v : Value) (ll : List (List Int)) (w : World) (hda : DayAt w u z d) (hv : RowsAt w v ll) (hl : thinD d = true) (hsh : shortB ll = false) :
    Calls Tryz.prog 5 #[.agg #[.int .i64 d.law.piece, .int .i64 d.law.drive, .int .i64 d.law.spread, .int .i64 d.law.brk, .int .i64 d.law.on, .int .i64 d.law.off, .int .i64 d.law.least, .int .i64 d.law.pieces, u, z], v] w (Gives w (.bool true)) := by
  obtain ⟨A3, c3, rfl, hc3, hm3⟩ := hv.form
  obtain ⟨A1, c1, rfl, _, _⟩ := hda.blocks.form
  obtain ⟨A2, c2, rfl, _, _⟩ := hda.walk.form
  have hw0 : Below w.heap.size w (w.alloc (.cells #[.int .i64 d.law.piece, .int .i64 d.law.drive, .int .i64 d.law.spread, .int .i64 d.law.brk, .int .i64 d.law.on, .int .i64 d.law.off, .int .i64 d.law.least, .int .i64 d.law.pieces, .slice A1 d.blocks.length c1, .slice A2 d.walk.length c2] 27)) := (Below.refl _ _).alloc (Nat.le_refl _) _
  have G0 := Lib.hid (heap_alloc_new w (.cells #[.int .i64 d.law.piece, .int .i64 d.law.drive, .int .i64 d.law.spread, .int .i64 d.law.brk, .int .i64 d.law.on, .int .i64 d.law.off, .int .i64 d.law.least, .int .i64 d.law.pieces, .slice A1 d.blocks.length c1, .slice A2 d.walk.length c2] 27 (0, 0)))
  have Hda := Lib.hid hda
  have Hl := Lib.hid hl
  have Hsh := Lib.hid hsh
  have Hv := Lib.hid hv
  clear hl hv hsh
  clear hda
  go_enter Tryz.func5, Tryz.ntmps5
  have gc := box_cells G0.out
  have gf := box_frozen G0.out
  go_wp2_with fail
  refine (Gives.to Hl.out (Thin_any d _ _ _ (Hda.out.below hw0))).mono ?_
  rintro e w1 ⟨rfl, hb1⟩
  have hw1 := hw0.trans (hb1.mono hw0.size)
  have G1 := Lib.hid (box_step hb1 G0.out)
  replace gc := box_cells G1.out
  replace gf := box_frozen G1.out
  go_wp2_with fail
  refine (Gives.to Hsh.out (shortR_any _ ll _ (Hv.out.below hw1))).mono ?_
  rintro e w2 ⟨rfl, hb2⟩
  have hw2 := hw1.trans (hb2.mono hw1.size)
  have G2 := Lib.hid (box_step hb2 G1.out)
  replace gc := box_cells G2.out
  replace gf := box_frozen G2.out
  go_wp2_with fail
  refine (wakes_any _).mono ?_
  rintro e w3 ⟨rfl, hb3⟩
  have hw3 := hw2.trans (hb3.mono hw2.size)
  have G3 := Lib.hid (box_step hb3 G2.out)
  replace gc := box_cells G3.out
  replace gf := box_frozen G3.out
  go_wp2
  go_ret
  exact ⟨rfl, hw3⟩
set_option maxRecDepth 100000 in
set_option maxHeartbeats 6400000 in
theorem Bests_fault (d : DDay) (u z v : Value) (ll : List (List Int)) (w : World) (hda : DayAt w u z d) (hv : RowsAt w v ll) (hl : thinD d = true) (hsh : shortB ll = true) (hf : faultD d ≠ 0) :
    Calls Tryz.prog 5 #[.agg #[.int .i64 d.law.piece, .int .i64 d.law.drive, .int .i64 d.law.spread, .int .i64 d.law.brk, .int .i64 d.law.on, .int .i64 d.law.off, .int .i64 d.law.least, .int .i64 d.law.pieces, u, z], v] w (Gives w (.bool true)) := by
  obtain ⟨A3, c3, rfl, hc3, hm3⟩ := hv.form
  have hm := thin_mild hl
  obtain ⟨hn12, hn14⟩ := short_len hsh
  have Hn14 := Lib.hid (show ∀ (j : Nat) (l : List Int), ll[j]? = some l → l.length ≤ 1000 from fun j l hl => by have := hn14 j l hl; omega)
  clear hn14
  have Hne := Lib.hid (show (faultD d != 0) = true by simpa using hf)
  have HGP := Lib.hid (show ∀ (u z v : Value) (w' : World), DayAt w' u z d → RowsAt w' v ll → Calls Tryz.prog 27 #[.agg #[.int .i64 d.law.piece, .int .i64 d.law.drive, .int .i64 d.law.spread, .int .i64 d.law.brk, .int .i64 d.law.on, .int .i64 d.law.off, .int .i64 d.law.least, .int .i64 d.law.pieces, u, z], v] w' (Gives w' (.bool false)) from fun u z v w' h1 h2 => Gives.to (by unfold proveB; rw [show (faultD d == 0) = false by simpa using hf]; rfl) (ProvePlan_any d u z v ll w' h1 hm h2 Hn14.out))
  generalize hF : faultD d = F at *
  have HF := Lib.hid hF
  clear hF
  have hF0 : (F == 0) = false := by simpa using hf
  have hF1 : (F != 0) = true := by simpa using hf
  obtain ⟨A1, c1, rfl, _, _⟩ := hda.blocks.form
  obtain ⟨A2, c2, rfl, _, _⟩ := hda.walk.form
  have hw0 : Below w.heap.size w (w.alloc (.cells #[.int .i64 d.law.piece, .int .i64 d.law.drive, .int .i64 d.law.spread, .int .i64 d.law.brk, .int .i64 d.law.on, .int .i64 d.law.off, .int .i64 d.law.least, .int .i64 d.law.pieces, .slice A1 d.blocks.length c1, .slice A2 d.walk.length c2] 27)) := (Below.refl _ _).alloc (Nat.le_refl _) _
  have G0 := Lib.hid (heap_alloc_new w (.cells #[.int .i64 d.law.piece, .int .i64 d.law.drive, .int .i64 d.law.spread, .int .i64 d.law.brk, .int .i64 d.law.on, .int .i64 d.law.off, .int .i64 d.law.least, .int .i64 d.law.pieces, .slice A1 d.blocks.length c1, .slice A2 d.walk.length c2] 27 (0, 0)))
  have Hda := Lib.hid hda
  have Hl := Lib.hid hl
  have Hsh := Lib.hid hsh
  have Hv := Lib.hid hv
  clear hl hv hsh
  clear hf
  clear hda
  go_enter Tryz.func5, Tryz.ntmps5
  have gc := box_cells G0.out
  have gf := box_frozen G0.out
  go_wp2_with fail
  refine (Gives.to Hl.out (Thin_any d _ _ _ (Hda.out.below hw0))).mono ?_
  rintro e w1 ⟨rfl, hb1⟩
  have hw1 := hw0.trans (hb1.mono hw0.size)
  have G1 := Lib.hid (box_step hb1 G0.out)
  replace gc := box_cells G1.out
  replace gf := box_frozen G1.out
  go_wp2_with fail
  refine (Gives.to Hsh.out (shortR_any _ ll _ (Hv.out.below hw1))).mono ?_
  rintro e w2 ⟨rfl, hb2⟩
  have hw2 := hw1.trans (hb2.mono hw1.size)
  have G2 := Lib.hid (box_step hb2 G1.out)
  replace gc := box_cells G2.out
  replace gf := box_frozen G2.out
  go_wp2_with fail
  refine (HF.out ▸ fault_any d _ _ _ (Hda.out.below hw2) hm).mono ?_
  rintro e w3 ⟨rfl, hb3⟩
  have hw3 := hw2.trans (hb3.mono hw2.size)
  have G3 := Lib.hid (box_step hb3 G2.out)
  replace gc := box_cells G3.out
  replace gf := box_frozen G3.out
  go_wp2_with fail
  refine (DayC_any d _ _ _ (Hda.out.below hw3) hm).mono ?_
  rintro e w4 ⟨B14, B24, e14, e24, rfl, hd4, hb4⟩
  have hw4 := hw3.trans (hb4.mono hw3.size)
  have G4 := Lib.hid (box_step hb4 G3.out)
  replace gc := box_cells G4.out
  replace gf := box_frozen G4.out
  go_wp2_with fail
  refine (rows_any _ ll _ (Hv.out.below hw4) (by omega) Hn14.out).mono ?_
  rintro e w5 ⟨A45, c45, us5, rfl, ho5, hr5, hb5⟩
  have hw5 := hw4.trans (hb5.mono hw4.size)
  have G5 := Lib.hid (box_step hb5 G4.out)
  replace gc := box_cells G5.out
  replace gf := box_frozen G5.out
  have hn5 := rows_of_own ho5 hr5
  have hd4b := hd4.below hb5
  clear ho5 hr5
  go_wp2_with fail
  refine (HGP.out _ _ _ _ hd4b hn5).mono ?_
  rintro e w6 ⟨rfl, hb6⟩
  have hw6 := hw5.trans (hb6.mono hw5.size)
  have G6 := Lib.hid (box_step hb6 G5.out)
  replace gc := box_cells G6.out
  replace gf := box_frozen G6.out
  clear hd4 hd4b hn5
  go_wp2_with fail
  refine (DayC_any d _ _ _ (Hda.out.below hw6) hm).mono ?_
  rintro e w7 ⟨B17, B27, e17, e27, rfl, hd7, hb7⟩
  have hw7 := hw6.trans (hb7.mono hw6.size)
  have G7 := Lib.hid (box_step hb7 G6.out)
  replace gc := box_cells G7.out
  replace gf := box_frozen G7.out
  go_wp2_with fail
  refine (Best_any d _ _ _ hd7 hm).mono ?_
  rintro e w8 ⟨hb8, hbf, _, _⟩
  have e1 := hbf (by rw [HF.out]; exact Hne.out)
  rw [HF.out] at e1
  subst e1
  clear hbf hd7
  have hw8 := hw7.trans (hb8.mono hw7.size)
  have G8 := Lib.hid (box_step hb8 G7.out)
  replace gc := box_cells G8.out
  replace gf := box_frozen G8.out
  go_wp2_with fail
  refine (wakes_any _).mono ?_
  rintro e w9 ⟨rfl, hb9⟩
  have hw9 := hw8.trans (hb9.mono hw8.size)
  have G9 := Lib.hid (box_step hb9 G8.out)
  replace gc := box_cells G9.out
  replace gf := box_frozen G9.out
  go_wp2
  go_ret
  exact ⟨rfl, hw9⟩
set_option maxRecDepth 100000 in
set_option maxHeartbeats 6400000 in
theorem Bests_many (d : DDay) (u z v : Value) (ll : List (List Int)) (w : World) (hda : DayAt w u z d) (hv : RowsAt w v ll) (hl : thinD d = true) (hsh : shortB ll = true) (hf : faultD d = 0) (hs : 6 < segN d.blocks) :
    Calls Tryz.prog 5 #[.agg #[.int .i64 d.law.piece, .int .i64 d.law.drive, .int .i64 d.law.spread, .int .i64 d.law.brk, .int .i64 d.law.on, .int .i64 d.law.off, .int .i64 d.law.least, .int .i64 d.law.pieces, u, z], v] w (Gives w (.bool true)) := by
  obtain ⟨A3, c3, rfl, hc3, hm3⟩ := hv.form
  have hm := thin_mild hl
  obtain ⟨hn12, hn14⟩ := short_len hsh
  have Hn14 := Lib.hid (show ∀ (j : Nat) (l : List Int), ll[j]? = some l → l.length ≤ 1000 from fun j l hl => by have := hn14 j l hl; omega)
  clear hn14
  have hf' : (faultD d != 0) = false := by rw [hf]; rfl
  have hok := fault_ok hf'
  have Hok := Lib.hid hok
  have Hf' := Lib.hid hf'
  have HF := Lib.hid hf
  have Hpb := Lib.hid (isPlan_prove hf ll)
  obtain ⟨X, hX⟩ : ∃ X, isPlanB d ll = X := ⟨_, rfl⟩
  have HX := Lib.hid hX
  have HGP := Lib.hid (show ∀ (u z v : Value) (w' : World), DayAt w' u z d → RowsAt w' v ll → Calls Tryz.prog 27 #[.agg #[.int .i64 d.law.piece, .int .i64 d.law.drive, .int .i64 d.law.spread, .int .i64 d.law.brk, .int .i64 d.law.on, .int .i64 d.law.off, .int .i64 d.law.least, .int .i64 d.law.pieces, u, z], v] w' (Gives w' (.bool X)) from fun u z v w' h1 h2 => Gives.to (Hpb.out.trans HX.out) (ProvePlan_any d u z v ll w' h1 hm h2 Hn14.out))
  clear hf hf' hok hX
  have hsI : (6 : Int) < (segN d.blocks : Int) := by omega
  obtain ⟨A1, c1, rfl, _, _⟩ := hda.blocks.form
  obtain ⟨A2, c2, rfl, _, _⟩ := hda.walk.form
  have hw0 : Below w.heap.size w (w.alloc (.cells #[.int .i64 d.law.piece, .int .i64 d.law.drive, .int .i64 d.law.spread, .int .i64 d.law.brk, .int .i64 d.law.on, .int .i64 d.law.off, .int .i64 d.law.least, .int .i64 d.law.pieces, .slice A1 d.blocks.length c1, .slice A2 d.walk.length c2] 27)) := (Below.refl _ _).alloc (Nat.le_refl _) _
  have G0 := Lib.hid (heap_alloc_new w (.cells #[.int .i64 d.law.piece, .int .i64 d.law.drive, .int .i64 d.law.spread, .int .i64 d.law.brk, .int .i64 d.law.on, .int .i64 d.law.off, .int .i64 d.law.least, .int .i64 d.law.pieces, .slice A1 d.blocks.length c1, .slice A2 d.walk.length c2] 27 (0, 0)))
  have Hda := Lib.hid hda
  have Hl := Lib.hid hl
  have Hsh := Lib.hid hsh
  have Hv := Lib.hid hv
  clear hl hv hsh
  clear hda
  go_enter Tryz.func5, Tryz.ntmps5
  have gc := box_cells G0.out
  have gf := box_frozen G0.out
  go_wp2_with fail
  refine (Gives.to Hl.out (Thin_any d _ _ _ (Hda.out.below hw0))).mono ?_
  rintro e w1 ⟨rfl, hb1⟩
  have hw1 := hw0.trans (hb1.mono hw0.size)
  have G1 := Lib.hid (box_step hb1 G0.out)
  replace gc := box_cells G1.out
  replace gf := box_frozen G1.out
  go_wp2_with fail
  refine (Gives.to Hsh.out (shortR_any _ ll _ (Hv.out.below hw1))).mono ?_
  rintro e w2 ⟨rfl, hb2⟩
  have hw2 := hw1.trans (hb2.mono hw1.size)
  have G2 := Lib.hid (box_step hb2 G1.out)
  replace gc := box_cells G2.out
  replace gf := box_frozen G2.out
  go_wp2_with fail
  refine (HF.out ▸ fault_any d _ _ _ (Hda.out.below hw2) hm).mono ?_
  rintro e w3 ⟨rfl, hb3⟩
  have hw3 := hw2.trans (hb3.mono hw2.size)
  have G3 := Lib.hid (box_step hb3 G2.out)
  replace gc := box_cells G3.out
  replace gf := box_frozen G3.out
  go_wp2_with fail
  refine (DayC_any d _ _ _ (Hda.out.below hw3) hm).mono ?_
  rintro e w4 ⟨B14, B24, e14, e24, rfl, hd4, hb4⟩
  have hw4 := hw3.trans (hb4.mono hw3.size)
  have G4 := Lib.hid (box_step hb4 G3.out)
  replace gc := box_cells G4.out
  replace gf := box_frozen G4.out
  go_wp2_with fail
  refine (rows_any _ ll _ (Hv.out.below hw4) (by omega) Hn14.out).mono ?_
  rintro e w5 ⟨A45, c45, us5, rfl, ho5, hr5, hb5⟩
  have hw5 := hw4.trans (hb5.mono hw4.size)
  have G5 := Lib.hid (box_step hb5 G4.out)
  replace gc := box_cells G5.out
  replace gf := box_frozen G5.out
  have hn5 := rows_of_own ho5 hr5
  have hd4b := hd4.below hb5
  clear ho5 hr5
  go_wp2_with fail
  refine (HGP.out _ _ _ _ hd4b hn5).mono ?_
  rintro e w6 ⟨rfl, hb6⟩
  have hw6 := hw5.trans (hb6.mono hw5.size)
  have G6 := Lib.hid (box_step hb6 G5.out)
  replace gc := box_cells G6.out
  replace gf := box_frozen G6.out
  clear hd4 hd4b hn5
  go_wp2_with fail
  refine (Gives.to HX.out (IsPlan_any d _ _ _ ll _ (Hda.out.below hw6) Hok.out (Hv.out.below hw6) (by omega) Hn14.out)).mono ?_
  rintro e w7 ⟨rfl, hb7⟩
  have hw7 := hw6.trans (hb7.mono hw6.size)
  have G7 := Lib.hid (box_step hb7 G6.out)
  replace gc := box_cells G7.out
  replace gf := box_frozen G7.out
  go_wp2_with fail
  refine (Segments_any d _ _ _ (Hda.out.below hw7) hm).mono ?_
  rintro e w8 ⟨rfl, hb8⟩
  have hw8 := hw7.trans (hb8.mono hw7.size)
  have G8 := Lib.hid (box_step hb8 G7.out)
  replace gc := box_cells G8.out
  replace gf := box_frozen G8.out
  go_wp2_with fail
  refine (wakes_any _).mono ?_
  rintro e w9 ⟨rfl, hb9⟩
  have hw9 := hw8.trans (hb9.mono hw8.size)
  have G9 := Lib.hid (box_step hb9 G8.out)
  replace gc := box_cells G9.out
  replace gf := box_frozen G9.out
  go_wp2
  go_ret
  exact ⟨rfl, hw9⟩
set_option maxRecDepth 100000 in
set_option maxHeartbeats 6400000 in
theorem Bests_none (d : DDay) (u z v : Value) (ll : List (List Int)) (w : World) (hda : DayAt w u z d) (hv : RowsAt w v ll) (hl : thinD d = true) (hsh : shortB ll = true) (hf : faultD d = 0) (hs : segN d.blocks ≤ 6) (hc : (bestV d).can = false) :
    Calls Tryz.prog 5 #[.agg #[.int .i64 d.law.piece, .int .i64 d.law.drive, .int .i64 d.law.spread, .int .i64 d.law.brk, .int .i64 d.law.on, .int .i64 d.law.off, .int .i64 d.law.least, .int .i64 d.law.pieces, u, z], v] w (Gives w (.bool true)) := by
  obtain ⟨A3, c3, rfl, hc3, hm3⟩ := hv.form
  have hm := thin_mild hl
  obtain ⟨hn12, hn14⟩ := short_len hsh
  have Hn14 := Lib.hid (show ∀ (j : Nat) (l : List Int), ll[j]? = some l → l.length ≤ 1000 from fun j l hl => by have := hn14 j l hl; omega)
  clear hn14
  have hf' : (faultD d != 0) = false := by rw [hf]; rfl
  have hok := fault_ok hf'
  have Hok := Lib.hid hok
  have Hf' := Lib.hid hf'
  have HF := Lib.hid hf
  have Hpb := Lib.hid (isPlan_prove hf ll)
  obtain ⟨X, hX⟩ : ∃ X, isPlanB d ll = X := ⟨_, rfl⟩
  have HX := Lib.hid hX
  have HGP := Lib.hid (show ∀ (u z v : Value) (w' : World), DayAt w' u z d → RowsAt w' v ll → Calls Tryz.prog 27 #[.agg #[.int .i64 d.law.piece, .int .i64 d.law.drive, .int .i64 d.law.spread, .int .i64 d.law.brk, .int .i64 d.law.on, .int .i64 d.law.off, .int .i64 d.law.least, .int .i64 d.law.pieces, u, z], v] w' (Gives w' (.bool X)) from fun u z v w' h1 h2 => Gives.to (Hpb.out.trans HX.out) (ProvePlan_any d u z v ll w' h1 hm h2 Hn14.out))
  clear hf hf' hok hX
  have hsI : ¬ (6 : Int) < (segN d.blocks : Int) := by omega
  have hn16 : segN d.blocks ≤ 16 := by omega
  obtain ⟨fu, hfu⟩ : ∃ fu : Nat, fu = 1100 := ⟨_, rfl⟩
  have HFU := Lib.hid hfu
  clear hfu
  have HFW := Lib.hid (show fewL d fu [] = (-1, 0) by rw [few_start Hok.out fu HFU.out, hc]; rfl)
  have HE1 := Lib.hid (show bestLen d = 0 by unfold bestLen; rw [hc]; rfl)
  have HE2 := Lib.hid (show bestPay d = 0 by unfold bestPay; rw [hc]; rfl)
  have HE3 := Lib.hid (show bestE d = 9 by unfold bestE; rw [hc]; rfl)
  clear hc
  obtain ⟨A1, c1, rfl, _, _⟩ := hda.blocks.form
  obtain ⟨A2, c2, rfl, _, _⟩ := hda.walk.form
  have hw0 : Below w.heap.size w (w.alloc (.cells #[.int .i64 d.law.piece, .int .i64 d.law.drive, .int .i64 d.law.spread, .int .i64 d.law.brk, .int .i64 d.law.on, .int .i64 d.law.off, .int .i64 d.law.least, .int .i64 d.law.pieces, .slice A1 d.blocks.length c1, .slice A2 d.walk.length c2] 27)) := (Below.refl _ _).alloc (Nat.le_refl _) _
  have G0 := Lib.hid (heap_alloc_new w (.cells #[.int .i64 d.law.piece, .int .i64 d.law.drive, .int .i64 d.law.spread, .int .i64 d.law.brk, .int .i64 d.law.on, .int .i64 d.law.off, .int .i64 d.law.least, .int .i64 d.law.pieces, .slice A1 d.blocks.length c1, .slice A2 d.walk.length c2] 27 (0, 0)))
  have Hda := Lib.hid hda
  have Hl := Lib.hid hl
  have Hsh := Lib.hid hsh
  have Hv := Lib.hid hv
  clear hl hv hsh
  clear hda
  go_enter Tryz.func5, Tryz.ntmps5
  have gc := box_cells G0.out
  have gf := box_frozen G0.out
  go_wp2_with fail
  refine (Gives.to Hl.out (Thin_any d _ _ _ (Hda.out.below hw0))).mono ?_
  rintro e w1 ⟨rfl, hb1⟩
  have hw1 := hw0.trans (hb1.mono hw0.size)
  have G1 := Lib.hid (box_step hb1 G0.out)
  replace gc := box_cells G1.out
  replace gf := box_frozen G1.out
  go_wp2_with fail
  refine (Gives.to Hsh.out (shortR_any _ ll _ (Hv.out.below hw1))).mono ?_
  rintro e w2 ⟨rfl, hb2⟩
  have hw2 := hw1.trans (hb2.mono hw1.size)
  have G2 := Lib.hid (box_step hb2 G1.out)
  replace gc := box_cells G2.out
  replace gf := box_frozen G2.out
  go_wp2_with fail
  refine (HF.out ▸ fault_any d _ _ _ (Hda.out.below hw2) hm).mono ?_
  rintro e w3 ⟨rfl, hb3⟩
  have hw3 := hw2.trans (hb3.mono hw2.size)
  have G3 := Lib.hid (box_step hb3 G2.out)
  replace gc := box_cells G3.out
  replace gf := box_frozen G3.out
  go_wp2_with fail
  refine (DayC_any d _ _ _ (Hda.out.below hw3) hm).mono ?_
  rintro e w4 ⟨B14, B24, e14, e24, rfl, hd4, hb4⟩
  have hw4 := hw3.trans (hb4.mono hw3.size)
  have G4 := Lib.hid (box_step hb4 G3.out)
  replace gc := box_cells G4.out
  replace gf := box_frozen G4.out
  go_wp2_with fail
  refine (rows_any _ ll _ (Hv.out.below hw4) (by omega) Hn14.out).mono ?_
  rintro e w5 ⟨A45, c45, us5, rfl, ho5, hr5, hb5⟩
  have hw5 := hw4.trans (hb5.mono hw4.size)
  have G5 := Lib.hid (box_step hb5 G4.out)
  replace gc := box_cells G5.out
  replace gf := box_frozen G5.out
  have hn5 := rows_of_own ho5 hr5
  have hd4b := hd4.below hb5
  clear ho5 hr5
  go_wp2_with fail
  refine (HGP.out _ _ _ _ hd4b hn5).mono ?_
  rintro e w6 ⟨rfl, hb6⟩
  have hw6 := hw5.trans (hb6.mono hw5.size)
  have G6 := Lib.hid (box_step hb6 G5.out)
  replace gc := box_cells G6.out
  replace gf := box_frozen G6.out
  clear hd4 hd4b hn5
  go_wp2_with fail
  refine (Gives.to HX.out (IsPlan_any d _ _ _ ll _ (Hda.out.below hw6) Hok.out (Hv.out.below hw6) (by omega) Hn14.out)).mono ?_
  rintro e w7 ⟨rfl, hb7⟩
  have hw7 := hw6.trans (hb7.mono hw6.size)
  have G7 := Lib.hid (box_step hb7 G6.out)
  replace gc := box_cells G7.out
  replace gf := box_frozen G7.out
  have HXX := Lib.hid (show (X != X) = false by simp)
  have HDl := Lib.hid (show ((legalDs d).map natsI).length = (legalDs d).length by simp)
  go_wp2_with fail
  refine (Segments_any d _ _ _ (Hda.out.below hw7) hm).mono ?_
  rintro e w8 ⟨rfl, hb8⟩
  have hw8 := hw7.trans (hb8.mono hw7.size)
  have G8 := Lib.hid (box_step hb8 G7.out)
  replace gc := box_cells G8.out
  replace gf := box_frozen G8.out
  go_wp2_with fail
  refine (DayC_any d _ _ _ (Hda.out.below hw8) hm).mono ?_
  rintro e w9 ⟨B19, B29, e19, e29, rfl, hd9, hb9⟩
  have hw9 := hw8.trans (hb9.mono hw8.size)
  have G9 := Lib.hid (box_step hb9 G8.out)
  replace gc := box_cells G9.out
  replace gf := box_frozen G9.out
  go_wp2_with fail
  refine (Best1_any d _ _ _ hd9 hm Hf'.out).mono ?_
  rintro e w10 ⟨AP, cP, rfl, hrp, hb10⟩
  have hw10 := hw9.trans (hb10.mono hw9.size)
  have G10 := Lib.hid (box_step hb10 G9.out)
  replace gc := box_cells G10.out
  replace gf := box_frozen G10.out
  have HRP10 := Lib.hid hrp
  rw [HE1.out, HE2.out, HE3.out]
  clear hrp hd9
  rw [HE1.out] at HRP10
  go_wp2_with fail
  refine wp_region_noPanic ?_
  refine wp_region_ph [([0, 1], [2, 3, 4]), ([5, 6], [7, 8])] (fun _ => true) (fun w' => Below w10.heap.size w10 w') (by kernel_rfl) (by kernel_rfl) (fun _ _ _ _ _ h => h) ?_
  have hb11 : Below w10.heap.size w10 w10.drew := (Below.refl _ _).drew
  have HS11 := Lib.hid hb11
  obtain ⟨w11, hwe11⟩ : ∃ W, W = w10.drew := ⟨_, rfl⟩
  rw [← hwe11] at hb11 HS11 ⊢
  clear hwe11
  have hw11 := hw10.trans (hb11.mono hw10.size)
  have G11 := Lib.hid (box_step hb11 G10.out)
  replace gc := box_cells G11.out
  replace gf := box_frozen G11.out
  refine wpPh_cons HS11.out (fun hne => ?_)
  have n0 := fun x : Meets (fun w' => Below w10.heap.size w10 w') => cell_below x.property (box_cells G10.out 0)
  have n1 := fun x : Meets (fun w' => Below w10.heap.size w10 w') => cell_below x.property (box_cells G10.out 1)
  have n2 := fun x : Meets (fun w' => Below w10.heap.size w10 w') => cell_below x.property (box_cells G10.out 2)
  have n3 := fun x : Meets (fun w' => Below w10.heap.size w10 w') => cell_below x.property (box_cells G10.out 3)
  have n4 := fun x : Meets (fun w' => Below w10.heap.size w10 w') => cell_below x.property (box_cells G10.out 4)
  have n5 := fun x : Meets (fun w' => Below w10.heap.size w10 w') => cell_below x.property (box_cells G10.out 5)
  have n6 := fun x : Meets (fun w' => Below w10.heap.size w10 w') => cell_below x.property (box_cells G10.out 6)
  have n7 := fun x : Meets (fun w' => Below w10.heap.size w10 w') => cell_below x.property (box_cells G10.out 7)
  have n8 := fun x : Meets (fun w' => Below w10.heap.size w10 w') => cell_below x.property (box_cells G10.out 8)
  have n9 := fun x : Meets (fun w' => Below w10.heap.size w10 w') => cell_below x.property (box_cells G10.out 9)
  simp only [pick, pickN, List.filterMap_cons, List.filterMap_nil, List.getElem?_cons_zero, List.getElem?_cons_succ, Option.map_some]
  repeat (change wpQuiet _ _ _ _ (_ :: _) _; go_big_quiet_step (fail))
  refine wpQuiet_nil ?_
  clear n0 n1 n2 n3 n4 n5 n6 n7 n8 n9 hne
  refine wpSeqK_step (fun K hK => ?_)
  go_simp
  refine (LegalDuties_any d _ _ _ (Hda.out.below hw11) Hok.out).mono ?_
  rintro e w12 ⟨A5, c5, us5, rfl, ho5, hro5, hb12⟩
  have HS12 := Lib.hid (HS11.out.trans (hb12.mono HS11.out.size))
  have hw12 := hw11.trans (hb12.mono hw11.size)
  have G12 := Lib.hid (box_step hb12 G11.out)
  replace gc := box_cells G12.out
  replace gf := box_frozen G12.out
  have HLD0 := Lib.hid (rows_of_own ho5 hro5)
  rw [HDl.out] at HLD0 ⊢
  clear ho5 hro5
  refine hK.out _ _ (fun _ => HS12.out) ?_
  clear hK K
  refine wpSeqK_step (fun K hK => ?_)
  go_simp
  refine (Fewest_top d Hok.out _ _ _ _ (Hda.out.below hw12) HLD0.out fu HFU.out _ _ HFW.out).mono ?_
  rintro e w13 ⟨rfl, hb13⟩
  have HS13 := Lib.hid (HS12.out.trans (hb13.mono HS12.out.size))
  have hw13 := hw12.trans (hb13.mono hw12.size)
  have G13 := Lib.hid (box_step hb13 G12.out)
  replace gc := box_cells G13.out
  replace gf := box_frozen G13.out
  refine hK.out _ _ (fun _ => HS13.out) ?_
  clear hK K
  refine wpSeqK_step (fun K hK => ?_)
  go_simp
  refine hK.out _ _ (fun _ => HS13.out) ?_
  clear hK K
  refine wpSeqK_nil ?_
  refine wpPh_cons HS13.out (fun hne => ?_)
  simp only [pick, pickN, List.filterMap_cons, List.filterMap_nil, List.getElem?_cons_zero, List.getElem?_cons_succ, Option.map_some]
  repeat (change wpQuiet _ _ _ _ (_ :: _) _; go_big_quiet_step (fail))
  refine wpQuiet_nil ?_
  clear  hne
  refine wpSeqK_step (fun K hK => ?_)
  go_simp
  refine hK.out _ _ (fun _ => HS13.out) ?_
  clear hK K
  refine wpSeqK_step (fun K hK => ?_)
  go_simp
  refine hK.out _ _ (fun _ => HS13.out) ?_
  clear hK K
  refine wpSeqK_nil ?_
  refine wpPh_nil ?_
  refine NoPanic.normal ?_
  have HRQ := Lib.hid (HRP10.out.below HS13.out)
  go_wp2_with fail
  refine (wakes_any _).mono ?_
  rintro e w14 ⟨rfl, hb14⟩
  have hw14 := hw13.trans (hb14.mono hw13.size)
  have G14 := Lib.hid (box_step hb14 G13.out)
  replace gc := box_cells G14.out
  replace gf := box_frozen G14.out
  go_wp2
  go_ret
  exact ⟨rfl, hw14⟩
set_option maxRecDepth 100000 in
set_option maxHeartbeats 6400000 in
theorem Bests_some (d : DDay) (u z v : Value) (ll : List (List Int)) (w : World) (hda : DayAt w u z d) (hv : RowsAt w v ll) (hl : thinD d = true) (hsh : shortB ll = true) (hf : faultD d = 0) (hs : segN d.blocks ≤ 6) (hc : (bestV d).can = true) :
    Calls Tryz.prog 5 #[.agg #[.int .i64 d.law.piece, .int .i64 d.law.drive, .int .i64 d.law.spread, .int .i64 d.law.brk, .int .i64 d.law.on, .int .i64 d.law.off, .int .i64 d.law.least, .int .i64 d.law.pieces, u, z], v] w (Gives w (.bool true)) := by
  obtain ⟨A3, c3, rfl, hc3, hm3⟩ := hv.form
  have hm := thin_mild hl
  obtain ⟨hn12, hn14⟩ := short_len hsh
  have Hn14 := Lib.hid (show ∀ (j : Nat) (l : List Int), ll[j]? = some l → l.length ≤ 1000 from fun j l hl => by have := hn14 j l hl; omega)
  clear hn14
  have hf' : (faultD d != 0) = false := by rw [hf]; rfl
  have hok := fault_ok hf'
  have Hok := Lib.hid hok
  have Hf' := Lib.hid hf'
  have HF := Lib.hid hf
  have Hpb := Lib.hid (isPlan_prove hf ll)
  obtain ⟨X, hX⟩ : ∃ X, isPlanB d ll = X := ⟨_, rfl⟩
  have HX := Lib.hid hX
  have HGP := Lib.hid (show ∀ (u z v : Value) (w' : World), DayAt w' u z d → RowsAt w' v ll → Calls Tryz.prog 27 #[.agg #[.int .i64 d.law.piece, .int .i64 d.law.drive, .int .i64 d.law.spread, .int .i64 d.law.brk, .int .i64 d.law.on, .int .i64 d.law.off, .int .i64 d.law.least, .int .i64 d.law.pieces, u, z], v] w' (Gives w' (.bool X)) from fun u z v w' h1 h2 => Gives.to (Hpb.out.trans HX.out) (ProvePlan_any d u z v ll w' h1 hm h2 Hn14.out))
  clear hf hf' hok hX
  have hsI : ¬ (6 : Int) < (segN d.blocks : Int) := by omega
  have hn16 : segN d.blocks ≤ 16 := by omega
  have hb1 := best_len hn16 hc
  have HBP := Lib.hid (show payS d (bestP d) = (bestV d).pay from best_pay hn16 hc)
  have HBO := Lib.hid (best_ordered hn16 hc)
  have HBI := Lib.hid (show isPlanB d ((bestP d).map natsI) = true from (isPlan_prove HF.out _).symm.trans (prove_of_plan Hf'.out (best_plan hn16 hc)))
  have HBL := Lib.hid (best_lens Hok.out hc)
  have HBD := Lib.hid (show ∀ l ∈ bestP d, IsDuty d l from (best_plan hn16 hc).duty)
  have hbf := best_few Hok.out hc
  obtain ⟨fu, hfu⟩ : ∃ fu : Nat, fu = 1100 := ⟨_, rfl⟩
  have HFU := Lib.hid hfu
  clear hfu
  have HFW := Lib.hid (show fewL d fu [] = (((bestP d).length : Int), (bestV d).pay) by rw [few_start Hok.out fu HFU.out, hc, hb1]; rfl)
  have HE1 := Lib.hid (show bestLen d = (bestP d).length by unfold bestLen; rw [hc]; rfl)
  have HE2 := Lib.hid (show bestPay d = (bestV d).pay by unfold bestPay; rw [hc]; rfl)
  have HE3 := Lib.hid (show bestE d = 0 by unfold bestE; rw [hc]; rfl)
  have HE4 := Lib.hid (show bestR d = bestP d by unfold bestR; rw [hc]; rfl)
  have HML := Lib.hid (show ((bestP d).map natsI).length = (bestP d).length by simp)
  generalize (bestV d).pay = PY at *
  clear hb1 hc
  obtain ⟨A1, c1, rfl, _, _⟩ := hda.blocks.form
  obtain ⟨A2, c2, rfl, _, _⟩ := hda.walk.form
  have hw0 : Below w.heap.size w (w.alloc (.cells #[.int .i64 d.law.piece, .int .i64 d.law.drive, .int .i64 d.law.spread, .int .i64 d.law.brk, .int .i64 d.law.on, .int .i64 d.law.off, .int .i64 d.law.least, .int .i64 d.law.pieces, .slice A1 d.blocks.length c1, .slice A2 d.walk.length c2] 27)) := (Below.refl _ _).alloc (Nat.le_refl _) _
  have G0 := Lib.hid (heap_alloc_new w (.cells #[.int .i64 d.law.piece, .int .i64 d.law.drive, .int .i64 d.law.spread, .int .i64 d.law.brk, .int .i64 d.law.on, .int .i64 d.law.off, .int .i64 d.law.least, .int .i64 d.law.pieces, .slice A1 d.blocks.length c1, .slice A2 d.walk.length c2] 27 (0, 0)))
  have Hda := Lib.hid hda
  have Hl := Lib.hid hl
  have Hsh := Lib.hid hsh
  have Hv := Lib.hid hv
  clear hl hv hsh
  clear hda
  go_enter Tryz.func5, Tryz.ntmps5
  have gc := box_cells G0.out
  have gf := box_frozen G0.out
  go_wp2_with fail
  refine (Gives.to Hl.out (Thin_any d _ _ _ (Hda.out.below hw0))).mono ?_
  rintro e w1 ⟨rfl, hb1⟩
  have hw1 := hw0.trans (hb1.mono hw0.size)
  have G1 := Lib.hid (box_step hb1 G0.out)
  replace gc := box_cells G1.out
  replace gf := box_frozen G1.out
  go_wp2_with fail
  refine (Gives.to Hsh.out (shortR_any _ ll _ (Hv.out.below hw1))).mono ?_
  rintro e w2 ⟨rfl, hb2⟩
  have hw2 := hw1.trans (hb2.mono hw1.size)
  have G2 := Lib.hid (box_step hb2 G1.out)
  replace gc := box_cells G2.out
  replace gf := box_frozen G2.out
  go_wp2_with fail
  refine (HF.out ▸ fault_any d _ _ _ (Hda.out.below hw2) hm).mono ?_
  rintro e w3 ⟨rfl, hb3⟩
  have hw3 := hw2.trans (hb3.mono hw2.size)
  have G3 := Lib.hid (box_step hb3 G2.out)
  replace gc := box_cells G3.out
  replace gf := box_frozen G3.out
  go_wp2_with fail
  refine (DayC_any d _ _ _ (Hda.out.below hw3) hm).mono ?_
  rintro e w4 ⟨B14, B24, e14, e24, rfl, hd4, hb4⟩
  have hw4 := hw3.trans (hb4.mono hw3.size)
  have G4 := Lib.hid (box_step hb4 G3.out)
  replace gc := box_cells G4.out
  replace gf := box_frozen G4.out
  go_wp2_with fail
  refine (rows_any _ ll _ (Hv.out.below hw4) (by omega) Hn14.out).mono ?_
  rintro e w5 ⟨A45, c45, us5, rfl, ho5, hr5, hb5⟩
  have hw5 := hw4.trans (hb5.mono hw4.size)
  have G5 := Lib.hid (box_step hb5 G4.out)
  replace gc := box_cells G5.out
  replace gf := box_frozen G5.out
  have hn5 := rows_of_own ho5 hr5
  have hd4b := hd4.below hb5
  clear ho5 hr5
  go_wp2_with fail
  refine (HGP.out _ _ _ _ hd4b hn5).mono ?_
  rintro e w6 ⟨rfl, hb6⟩
  have hw6 := hw5.trans (hb6.mono hw5.size)
  have G6 := Lib.hid (box_step hb6 G5.out)
  replace gc := box_cells G6.out
  replace gf := box_frozen G6.out
  clear hd4 hd4b hn5
  go_wp2_with fail
  refine (Gives.to HX.out (IsPlan_any d _ _ _ ll _ (Hda.out.below hw6) Hok.out (Hv.out.below hw6) (by omega) Hn14.out)).mono ?_
  rintro e w7 ⟨rfl, hb7⟩
  have hw7 := hw6.trans (hb7.mono hw6.size)
  have G7 := Lib.hid (box_step hb7 G6.out)
  replace gc := box_cells G7.out
  replace gf := box_frozen G7.out
  have HXX := Lib.hid (show (X != X) = false by simp)
  have HDl := Lib.hid (show ((legalDs d).map natsI).length = (legalDs d).length by simp)
  go_wp2_with fail
  refine (Segments_any d _ _ _ (Hda.out.below hw7) hm).mono ?_
  rintro e w8 ⟨rfl, hb8⟩
  have hw8 := hw7.trans (hb8.mono hw7.size)
  have G8 := Lib.hid (box_step hb8 G7.out)
  replace gc := box_cells G8.out
  replace gf := box_frozen G8.out
  go_wp2_with fail
  refine (DayC_any d _ _ _ (Hda.out.below hw8) hm).mono ?_
  rintro e w9 ⟨B19, B29, e19, e29, rfl, hd9, hb9⟩
  have hw9 := hw8.trans (hb9.mono hw8.size)
  have G9 := Lib.hid (box_step hb9 G8.out)
  replace gc := box_cells G9.out
  replace gf := box_frozen G9.out
  go_wp2_with fail
  refine (Best1_any d _ _ _ hd9 hm Hf'.out).mono ?_
  rintro e w10 ⟨AP, cP, rfl, hrp, hb10⟩
  have hw10 := hw9.trans (hb10.mono hw9.size)
  have G10 := Lib.hid (box_step hb10 G9.out)
  replace gc := box_cells G10.out
  replace gf := box_frozen G10.out
  have HRP10 := Lib.hid hrp
  rw [HE1.out, HE2.out, HE3.out]
  clear hrp hd9
  rw [HE1.out, HE4.out] at HRP10
  go_wp2_with fail
  refine wp_region_noPanic ?_
  refine wp_region_ph [([0, 1], [2, 3, 4]), ([5, 6], [7, 8])] (fun _ => true) (fun w' => Below w10.heap.size w10 w') (by kernel_rfl) (by kernel_rfl) (fun _ _ _ _ _ h => h) ?_
  have hb11 : Below w10.heap.size w10 w10.drew := (Below.refl _ _).drew
  have HS11 := Lib.hid hb11
  obtain ⟨w11, hwe11⟩ : ∃ W, W = w10.drew := ⟨_, rfl⟩
  rw [← hwe11] at hb11 HS11 ⊢
  clear hwe11
  have hw11 := hw10.trans (hb11.mono hw10.size)
  have G11 := Lib.hid (box_step hb11 G10.out)
  replace gc := box_cells G11.out
  replace gf := box_frozen G11.out
  refine wpPh_cons HS11.out (fun hne => ?_)
  have n0 := fun x : Meets (fun w' => Below w10.heap.size w10 w') => cell_below x.property (box_cells G10.out 0)
  have n1 := fun x : Meets (fun w' => Below w10.heap.size w10 w') => cell_below x.property (box_cells G10.out 1)
  have n2 := fun x : Meets (fun w' => Below w10.heap.size w10 w') => cell_below x.property (box_cells G10.out 2)
  have n3 := fun x : Meets (fun w' => Below w10.heap.size w10 w') => cell_below x.property (box_cells G10.out 3)
  have n4 := fun x : Meets (fun w' => Below w10.heap.size w10 w') => cell_below x.property (box_cells G10.out 4)
  have n5 := fun x : Meets (fun w' => Below w10.heap.size w10 w') => cell_below x.property (box_cells G10.out 5)
  have n6 := fun x : Meets (fun w' => Below w10.heap.size w10 w') => cell_below x.property (box_cells G10.out 6)
  have n7 := fun x : Meets (fun w' => Below w10.heap.size w10 w') => cell_below x.property (box_cells G10.out 7)
  have n8 := fun x : Meets (fun w' => Below w10.heap.size w10 w') => cell_below x.property (box_cells G10.out 8)
  have n9 := fun x : Meets (fun w' => Below w10.heap.size w10 w') => cell_below x.property (box_cells G10.out 9)
  simp only [pick, pickN, List.filterMap_cons, List.filterMap_nil, List.getElem?_cons_zero, List.getElem?_cons_succ, Option.map_some]
  repeat (change wpQuiet _ _ _ _ (_ :: _) _; go_big_quiet_step (fail))
  refine wpQuiet_nil ?_
  clear n0 n1 n2 n3 n4 n5 n6 n7 n8 n9 hne
  refine wpSeqK_step (fun K hK => ?_)
  go_simp
  refine (LegalDuties_any d _ _ _ (Hda.out.below hw11) Hok.out).mono ?_
  rintro e w12 ⟨A5, c5, us5, rfl, ho5, hro5, hb12⟩
  have HS12 := Lib.hid (HS11.out.trans (hb12.mono HS11.out.size))
  have hw12 := hw11.trans (hb12.mono hw11.size)
  have G12 := Lib.hid (box_step hb12 G11.out)
  replace gc := box_cells G12.out
  replace gf := box_frozen G12.out
  have HLD0 := Lib.hid (rows_of_own ho5 hro5)
  rw [HDl.out] at HLD0 ⊢
  clear ho5 hro5
  refine hK.out _ _ (fun _ => HS12.out) ?_
  clear hK K
  refine wpSeqK_step (fun K hK => ?_)
  go_simp
  refine (Fewest_top d Hok.out _ _ _ _ (Hda.out.below hw12) HLD0.out fu HFU.out _ _ HFW.out).mono ?_
  rintro e w13 ⟨rfl, hb13⟩
  have HS13 := Lib.hid (HS12.out.trans (hb13.mono HS12.out.size))
  have hw13 := hw12.trans (hb13.mono hw12.size)
  have G13 := Lib.hid (box_step hb13 G12.out)
  replace gc := box_cells G13.out
  replace gf := box_frozen G13.out
  refine hK.out _ _ (fun _ => HS13.out) ?_
  clear hK K
  refine wpSeqK_step (fun K hK => ?_)
  go_simp
  refine hK.out _ _ (fun _ => HS13.out) ?_
  clear hK K
  refine wpSeqK_nil ?_
  refine wpPh_cons HS13.out (fun hne => ?_)
  simp only [pick, pickN, List.filterMap_cons, List.filterMap_nil, List.getElem?_cons_zero, List.getElem?_cons_succ, Option.map_some]
  repeat (change wpQuiet _ _ _ _ (_ :: _) _; go_big_quiet_step (fail))
  refine wpQuiet_nil ?_
  clear  hne
  refine wpSeqK_step (fun K hK => ?_)
  go_simp
  refine hK.out _ _ (fun _ => HS13.out) ?_
  clear hK K
  refine wpSeqK_step (fun K hK => ?_)
  go_simp
  refine hK.out _ _ (fun _ => HS13.out) ?_
  clear hK K
  refine wpSeqK_nil ?_
  refine wpPh_nil ?_
  refine NoPanic.normal ?_
  have HRQ := Lib.hid (HRP10.out.below HS13.out)
  go_wp2_with fail
  refine (Gives.to HBI.out (IsPlan_any d _ _ _ ((bestP d).map natsI) _ (Hda.out.below hw13) Hok.out HRQ.out (by rw [HML.out]; omega) HBL.out)).mono ?_
  rintro e w14 ⟨rfl, hb14⟩
  have hw14 := hw13.trans (hb14.mono hw13.size)
  have G14 := Lib.hid (box_step hb14 G13.out)
  replace gc := box_cells G14.out
  replace gf := box_frozen G14.out
  have HRR := Lib.hid (HRQ.out.below hb14)
  go_wp2_with fail
  refine (HBP.out ▸ PlanPay_any d _ _ _ (bestP d) _ (Hda.out.below hw14) Hok.out HRR.out (by omega) HBD.out).mono ?_
  rintro e w15 ⟨rfl, hb15⟩
  have hw15 := hw14.trans (hb15.mono hw14.size)
  have G15 := Lib.hid (box_step hb15 G14.out)
  replace gc := box_cells G15.out
  replace gf := box_frozen G15.out
  have HRS := Lib.hid (HRR.out.below hb15)
  go_wp2_with fail
  refine (Gives.to HBO.out (ordered_any _ ((bestP d).map natsI) _ HRS.out (by rw [HML.out]; omega))).mono ?_
  rintro e w16 ⟨rfl, hb16⟩
  have hw16 := hw15.trans (hb16.mono hw15.size)
  have G16 := Lib.hid (box_step hb16 G15.out)
  replace gc := box_cells G16.out
  replace gf := box_frozen G16.out
  go_wp2_with fail
  refine (wakes_any _).mono ?_
  rintro e w17 ⟨rfl, hb17⟩
  have hw17 := hw16.trans (hb17.mono hw16.size)
  have G17 := Lib.hid (box_step hb17 G16.out)
  replace gc := box_cells G17.out
  replace gf := box_frozen G17.out
  go_wp2
  go_ret
  exact ⟨rfl, hw17⟩
theorem Bests_law (d : DDay) (u z v : Value) (ll : List (List Int)) (w : World) (hda : DayAt w u z d) (hv : RowsAt w v ll) :
    Calls Tryz.prog 5 #[.agg #[.int .i64 d.law.piece, .int .i64 d.law.drive, .int .i64 d.law.spread, .int .i64 d.law.brk, .int .i64 d.law.on, .int .i64 d.law.off, .int .i64 d.law.least, .int .i64 d.law.pieces, u, z], v] w (Gives w (.bool true)) := by
  cases hl : thinD d with
  | false => exact Bests_thick d u z v ll w hda hv hl
  | true =>
    cases hsh : shortB ll with
    | false => exact Bests_long d u z v ll w hda hv hl hsh
    | true =>
      by_cases hf : faultD d = 0
      · by_cases hs : 6 < segN d.blocks
        · exact Bests_many d u z v ll w hda hv hl hsh hf hs
        have hs' : segN d.blocks ≤ 6 := by omega
        cases hc : (bestV d).can with
        | false => exact Bests_none d u z v ll w hda hv hl hsh hf hs' hc
        | true => exact Bests_some d u z v ll w hda hv hl hsh hf hs' hc
      · exact Bests_fault d u z v ll w hda hv hl hsh hf
end Go.Proofs.YtllobkhdeahgpaaGreat
