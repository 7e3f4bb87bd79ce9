import Derived.Test.YtllobkhdeahgpaaGreatZ8
set_option linter.unusedVariables false
set_option linter.unusedSimpArgs false
namespace Go.Proofs.YtllobkhdeahgpaaGreat
open Go Go.Proofs Go.RowKit

/-! ### Legal, Pay of the reference -/
theorem duty_pcs {d : DDay} (hd : DayOk d) {l : List Nat} (hl : IsDuty d l) : (piecesL d l).length ≤ 10 ∧ ∀ p ∈ piecesL d l, InDay d p.b p.fr ∧ InDay d p.b p.to := by
  constructor
  · have h1 := rawP_le (segs d.blocks) l
    have h2 := duty_len hl
    have h3 := hd.segs
    have h4 : (piecesL d l).length = _ := (srtP_perm d.blocks (rawP (segs d.blocks) l)).length_eq
    omega
  · intro p hp
    obtain ⟨k1, k2, k3, k4⟩ := (raw_ok (bl := d.blocks) l hl.rise hl.lt).ok p ((srtP_perm _ _).mem_iff.1 hp)
    exact ⟨⟨k1, by omega⟩, k1, k3⟩
theorem lows_small {d : DDay} (hd : DayOk d) : SmallT (lowsL d.blocks) := fun b i => by
  rw [tab_lows]; have := rel_any hd b i; omega
theorem highs_small {d : DDay} (hd : DayOk d) : SmallT (highsL d.blocks) := fun b i => by
  rw [tab_highs]; have := rel_any hd b i; omega
theorem in_lows {d : DDay} {b i : Nat} (h : InDay d b i) : InTab (lowsL d.blocks) b i := by
  obtain ⟨h1, h2⟩ := h
  refine ⟨by simpa [lowsL] using h1, ?_⟩
  rw [List.getElem?_eq_getElem h1, Option.getD_some] at h2
  simp only [lowsL, List.getElem?_map, List.getElem?_eq_getElem h1, Option.map_some, Option.getD_some, List.length_map]
  exact h2
theorem in_highs {d : DDay} {b i : Nat} (h : InDay d b i) : InTab (highsL d.blocks) b i := by
  obtain ⟨h1, h2⟩ := h
  refine ⟨by simpa [highsL] using h1, ?_⟩
  rw [List.getElem?_eq_getElem h1, Option.getD_some] at h2
  simp only [highsL, List.getElem?_map, List.getElem?_eq_getElem h1, Option.map_some, Option.getD_some, List.length_map]
  exact h2
set_option maxRecDepth 100000 in
set_option maxHeartbeats 3200000 in
theorem Legal_ref (d : DDay) (u z v : Value) (l : List Nat) (w : World) (hda : DayAt w u z d) (hd : DayOk d) (hv : NumsAt .i64 w v (natsI l)) (hl : IsDuty d l) :
    Calls Tryz.prog 24 #[.agg #[.int .i64 d.law.piece, .int .i64 d.law.drive, .int .i64 d.law.spread, .int .i64 d.law.brk, .int .i64 d.law.on, .int .i64 d.law.off, .int .i64 d.law.least, .int .i64 d.law.pieces, u, z], v] w (Gives w (.bool (legalL d l))) := by
  have hm := day_mild hd
  obtain ⟨A3, c3, rfl, hc3, hm3⟩ := hv.form
  obtain ⟨hpl, hpi⟩ := duty_pcs hd hl
  have hne := pieces_ne hl
  have Hpt := Lib.hid (show ∀ p ∈ piecesL d l, InTab (lowsL d.blocks) p.b p.fr ∧ InTab (highsL d.blocks) p.b p.to from fun p hp => ⟨in_lows (hpi p hp).1, in_highs (hpi p hp).2⟩)
  have Hpi := Lib.hid hpi
  have Hne := Lib.hid hne
  have HB := Lib.hid (lows_small hd)
  have HE := Lib.hid (highs_small hd)
  have Hnl := Lib.hid (natsI_len l)
  generalize hn : (natsI l).length = n at *
  clear hn hpi hne
  obtain ⟨A1, c1, rfl, _, _⟩ := hda.blocks.form
  obtain ⟨A2, c2, rfl, _, _⟩ := hda.walk.form
  have hw0 : Below w.heap.size w (w.alloc (.cells #[.int .i64 d.law.piece, .int .i64 d.law.drive, .int .i64 d.law.spread, .int .i64 d.law.brk, .int .i64 d.law.on, .int .i64 d.law.off, .int .i64 d.law.least, .int .i64 d.law.pieces, .slice A1 d.blocks.length c1, .slice A2 d.walk.length c2] 27)) := (Below.refl _ _).alloc (Nat.le_refl _) _
  have G0 := Lib.hid (heap_alloc_new w (.cells #[.int .i64 d.law.piece, .int .i64 d.law.drive, .int .i64 d.law.spread, .int .i64 d.law.brk, .int .i64 d.law.on, .int .i64 d.law.off, .int .i64 d.law.least, .int .i64 d.law.pieces, .slice A1 d.blocks.length c1, .slice A2 d.walk.length c2] 27 (0, 0)))
  have Hda := Lib.hid hda
  have Hv := Lib.hid hv
  have Hl := Lib.hid hl
  have Hd := Lib.hid hd
  clear hv hl hd
  clear hda
  go_enter Tryz.func24, Tryz.ntmps24
  have gc := box_cells G0.out
  have gf := box_frozen G0.out
  go_wp2_with fail
  refine wp_name (fun W => Below w.heap.size w W ∧ W.heap[w.heap.size]? = some (.cells #[.int .i64 d.law.piece, .int .i64 d.law.drive, .int .i64 d.law.spread, .int .i64 d.law.brk, .int .i64 d.law.on, .int .i64 d.law.off, .int .i64 d.law.least, .int .i64 d.law.pieces, .slice A1 d.blocks.length c1, .slice A2 d.walk.length c2] 27 (0, 0))) ⟨hw0, G0.out⟩ (fun wa hW => ?_)
  obtain ⟨hwa, hGa⟩ := hW
  have Ga := Lib.hid hGa
  replace gc := box_cells Ga.out
  replace gf := box_frozen Ga.out
  clear hGa
  refine wp_region_noPanic ?_
  refine wp_region_ph [([0, 1, 2, 4, 6], [3, 5, 7, 8, 9])] (fun _ => true) (fun w' => Below wa.heap.size wa w') (by kernel_rfl) (by kernel_rfl) (fun _ _ _ _ _ h => h) ?_
  have hb1 : Below wa.heap.size wa wa.drew := (Below.refl _ _).drew
  have HS1 := Lib.hid hb1
  obtain ⟨w1, hwe1⟩ : ∃ W, W = wa.drew := ⟨_, rfl⟩
  rw [← hwe1] at hb1 HS1 ⊢
  clear hwe1
  have hw1 := hwa.trans (hb1.mono hwa.size)
  have G1 := Lib.hid (box_step hb1 Ga.out)
  replace gc := box_cells G1.out
  replace gf := box_frozen G1.out
  refine wpPh_cons HS1.out (fun hne => ?_)
  have n0 := fun x : Meets (fun w' => Below wa.heap.size wa w') => cell_below x.property (box_cells Ga.out 0)
  have n1 := fun x : Meets (fun w' => Below wa.heap.size wa w') => cell_below x.property (box_cells Ga.out 1)
  have n2 := fun x : Meets (fun w' => Below wa.heap.size wa w') => cell_below x.property (box_cells Ga.out 2)
  have n3 := fun x : Meets (fun w' => Below wa.heap.size wa w') => cell_below x.property (box_cells Ga.out 3)
  have n4 := fun x : Meets (fun w' => Below wa.heap.size wa w') => cell_below x.property (box_cells Ga.out 4)
  have n5 := fun x : Meets (fun w' => Below wa.heap.size wa w') => cell_below x.property (box_cells Ga.out 5)
  have n6 := fun x : Meets (fun w' => Below wa.heap.size wa w') => cell_below x.property (box_cells Ga.out 6)
  have n7 := fun x : Meets (fun w' => Below wa.heap.size wa w') => cell_below x.property (box_cells Ga.out 7)
  have n8 := fun x : Meets (fun w' => Below wa.heap.size wa w') => cell_below x.property (box_cells Ga.out 8)
  have n9 := fun x : Meets (fun w' => Below wa.heap.size wa w') => cell_below x.property (box_cells Ga.out 9)
  simp only [pick, pickN, List.filterMap_cons, List.filterMap_nil, List.getElem?_cons_zero, List.getElem?_cons_succ, Option.map_some]
  repeat (change wpQuiet _ _ _ _ (_ :: _) _; go_big_quiet_step (fail))
  refine wpQuiet_nil ?_
  clear n0 n1 n2 n3 n4 n5 n6 n7 n8 n9 hne
  refine wpSeqK_step (fun K hK => ?_)
  go_simp
  refine (Pieces_any d _ _ _ l _ (Hda.out.below hw1) Hd.out (Hv.out.below hw1) Hl.out).mono ?_
  rintro e w2 ⟨A4, c4, rfl, ho4, hb2⟩
  have HS2 := Lib.hid (HS1.out.trans (hb2.mono HS1.out.size))
  have hw2 := hw1.trans (hb2.mono hw1.size)
  have G2 := Lib.hid (box_step hb2 G1.out)
  replace gc := box_cells G2.out
  replace gf := box_frozen G2.out
  have HP := Lib.hid (pcs_of_own ho4)
  clear ho4
  refine hK.out _ _ (fun _ => HS2.out) ?_
  clear hK K
  refine wpSeqK_step (fun K hK => ?_)
  go_simp
  refine (Lows_any d _ _ _ (Hda.out.below hw2) hm).mono ?_
  rintro e w3 ⟨A5, c5, us5, rfl, ho5, hr5, hb3⟩
  have HS3 := Lib.hid (HS2.out.trans (hb3.mono HS2.out.size))
  have hw3 := hw2.trans (hb3.mono hw2.size)
  have G3 := Lib.hid (box_step hb3 G2.out)
  replace gc := box_cells G3.out
  replace gf := box_frozen G3.out
  replace HP := Lib.hid (HP.out.below hb3)
  have HL := Lib.hid (rows_of_own ho5 hr5)
  clear ho5 hr5
  refine hK.out _ _ (fun _ => HS3.out) ?_
  clear hK K
  refine wpSeqK_step (fun K hK => ?_)
  go_simp
  refine (Highs_any d _ _ _ (Hda.out.below hw3) hm).mono ?_
  rintro e w4 ⟨A6, c6, us6, rfl, ho6, hr6, hb4⟩
  have HS4 := Lib.hid (HS3.out.trans (hb4.mono HS3.out.size))
  have hw4 := hw3.trans (hb4.mono hw3.size)
  have G4 := Lib.hid (box_step hb4 G3.out)
  replace gc := box_cells G4.out
  replace gf := box_frozen G4.out
  replace HP := Lib.hid (HP.out.below hb4)
  replace HL := Lib.hid (HL.out.below hb4)
  have HH := Lib.hid (rows_of_own ho6 hr6)
  clear ho6 hr6
  refine hK.out _ _ (fun _ => HS4.out) ?_
  clear hK K
  refine wpSeqK_step (fun K hK => ?_)
  go_simp
  refine ((tab_lows d.blocks ▸ tab_highs d.blocks ▸ Obeys_any d _ _ _ _ _ (piecesL d l) _ _ _ (Hda.out.below hw4) Hd.out HP.out HL.out HH.out HB.out HE.out Hpt.out Hpi.out (by omega) Hne.out)).mono ?_
  rintro e w5 ⟨rfl, hb5⟩
  have HS5 := Lib.hid (HS4.out.trans (hb5.mono HS4.out.size))
  have hw5 := hw4.trans (hb5.mono hw4.size)
  have G5 := Lib.hid (box_step hb5 G4.out)
  replace gc := box_cells G5.out
  replace gf := box_frozen G5.out
  refine hK.out _ _ (fun _ => HS5.out) ?_
  clear hK K
  refine wpSeqK_step (fun K hK => ?_)
  go_simp
  refine hK.out _ _ (fun _ => HS5.out) ?_
  clear hK K
  refine wpSeqK_nil ?_
  refine wpPh_nil ?_
  refine NoPanic.normal ?_
  go_wp2_with fail
  go_ret
  exact ⟨by rfl, hw5⟩
set_option maxRecDepth 100000 in
set_option maxHeartbeats 3200000 in
theorem Pay_ref (d : DDay) (u z v : Value) (l : List Nat) (w : World) (hda : DayAt w u z d) (hd : DayOk d) (hv : NumsAt .i64 w v (natsI l)) (hl : IsDuty d l) :
    Calls Tryz.prog 25 #[.agg #[.int .i64 d.law.piece, .int .i64 d.law.drive, .int .i64 d.law.spread, .int .i64 d.law.brk, .int .i64 d.law.on, .int .i64 d.law.off, .int .i64 d.law.least, .int .i64 d.law.pieces, u, z], v] w (Gives w (.int .i64 (payL d l))) := by
  have hm := day_mild hd
  obtain ⟨A3, c3, rfl, hc3, hm3⟩ := hv.form
  obtain ⟨hpl, hpi⟩ := duty_pcs hd hl
  have hne := pieces_ne hl
  have Hpt := Lib.hid (show ∀ p ∈ piecesL d l, InTab (lowsL d.blocks) p.b p.fr ∧ InTab (highsL d.blocks) p.b p.to from fun p hp => ⟨in_lows (hpi p hp).1, in_highs (hpi p hp).2⟩)
  have Hpi := Lib.hid hpi
  have Hne := Lib.hid hne
  have HB := Lib.hid (lows_small hd)
  have HE := Lib.hid (highs_small hd)
  have Hnl := Lib.hid (natsI_len l)
  generalize hn : (natsI l).length = n at *
  clear hn hpi hne
  obtain ⟨A1, c1, rfl, _, _⟩ := hda.blocks.form
  obtain ⟨A2, c2, rfl, _, _⟩ := hda.walk.form
  have hw0 : Below w.heap.size w (w.alloc (.cells #[.int .i64 d.law.piece, .int .i64 d.law.drive, .int .i64 d.law.spread, .int .i64 d.law.brk, .int .i64 d.law.on, .int .i64 d.law.off, .int .i64 d.law.least, .int .i64 d.law.pieces, .slice A1 d.blocks.length c1, .slice A2 d.walk.length c2] 27)) := (Below.refl _ _).alloc (Nat.le_refl _) _
  have G0 := Lib.hid (heap_alloc_new w (.cells #[.int .i64 d.law.piece, .int .i64 d.law.drive, .int .i64 d.law.spread, .int .i64 d.law.brk, .int .i64 d.law.on, .int .i64 d.law.off, .int .i64 d.law.least, .int .i64 d.law.pieces, .slice A1 d.blocks.length c1, .slice A2 d.walk.length c2] 27 (0, 0)))
  have Hda := Lib.hid hda
  have Hv := Lib.hid hv
  have Hl := Lib.hid hl
  have Hd := Lib.hid hd
  clear hv hl hd
  clear hda
  go_enter Tryz.func25, Tryz.ntmps25
  have gc := box_cells G0.out
  have gf := box_frozen G0.out
  go_wp2_with fail
  refine wp_name (fun W => Below w.heap.size w W ∧ W.heap[w.heap.size]? = some (.cells #[.int .i64 d.law.piece, .int .i64 d.law.drive, .int .i64 d.law.spread, .int .i64 d.law.brk, .int .i64 d.law.on, .int .i64 d.law.off, .int .i64 d.law.least, .int .i64 d.law.pieces, .slice A1 d.blocks.length c1, .slice A2 d.walk.length c2] 27 (0, 0))) ⟨hw0, G0.out⟩ (fun wa hW => ?_)
  obtain ⟨hwa, hGa⟩ := hW
  have Ga := Lib.hid hGa
  replace gc := box_cells Ga.out
  replace gf := box_frozen Ga.out
  clear hGa
  refine wp_region_noPanic ?_
  refine wp_region_ph [([0, 1, 2, 3, 4, 5, 7, 9], [6, 8, 10, 11, 12, 13])] (fun _ => true) (fun w' => Below wa.heap.size wa w') (by kernel_rfl) (by kernel_rfl) (fun _ _ _ _ _ h => h) ?_
  have hb1 : Below wa.heap.size wa wa.drew := (Below.refl _ _).drew
  have HS1 := Lib.hid hb1
  obtain ⟨w1, hwe1⟩ : ∃ W, W = wa.drew := ⟨_, rfl⟩
  rw [← hwe1] at hb1 HS1 ⊢
  clear hwe1
  have hw1 := hwa.trans (hb1.mono hwa.size)
  have G1 := Lib.hid (box_step hb1 Ga.out)
  replace gc := box_cells G1.out
  replace gf := box_frozen G1.out
  refine wpPh_cons HS1.out (fun hne => ?_)
  have n0 := fun x : Meets (fun w' => Below wa.heap.size wa w') => cell_below x.property (box_cells Ga.out 0)
  have n1 := fun x : Meets (fun w' => Below wa.heap.size wa w') => cell_below x.property (box_cells Ga.out 1)
  have n2 := fun x : Meets (fun w' => Below wa.heap.size wa w') => cell_below x.property (box_cells Ga.out 2)
  have n3 := fun x : Meets (fun w' => Below wa.heap.size wa w') => cell_below x.property (box_cells Ga.out 3)
  have n4 := fun x : Meets (fun w' => Below wa.heap.size wa w') => cell_below x.property (box_cells Ga.out 4)
  have n5 := fun x : Meets (fun w' => Below wa.heap.size wa w') => cell_below x.property (box_cells Ga.out 5)
  have n6 := fun x : Meets (fun w' => Below wa.heap.size wa w') => cell_below x.property (box_cells Ga.out 6)
  have n7 := fun x : Meets (fun w' => Below wa.heap.size wa w') => cell_below x.property (box_cells Ga.out 7)
  have n8 := fun x : Meets (fun w' => Below wa.heap.size wa w') => cell_below x.property (box_cells Ga.out 8)
  have n9 := fun x : Meets (fun w' => Below wa.heap.size wa w') => cell_below x.property (box_cells Ga.out 9)
  simp only [pick, pickN, List.filterMap_cons, List.filterMap_nil, List.getElem?_cons_zero, List.getElem?_cons_succ, Option.map_some]
  repeat (change wpQuiet _ _ _ _ (_ :: _) _; go_big_quiet_step (fail))
  refine wpQuiet_nil ?_
  clear n0 n1 n2 n3 n4 n5 n6 n7 n8 n9 hne
  refine wpSeqK_step (fun K hK => ?_)
  go_simp
  refine (Pieces_any d _ _ _ l _ (Hda.out.below hw1) Hd.out (Hv.out.below hw1) Hl.out).mono ?_
  rintro e w2 ⟨A4, c4, rfl, ho4, hb2⟩
  have HS2 := Lib.hid (HS1.out.trans (hb2.mono HS1.out.size))
  have hw2 := hw1.trans (hb2.mono hw1.size)
  have G2 := Lib.hid (box_step hb2 G1.out)
  replace gc := box_cells G2.out
  replace gf := box_frozen G2.out
  have HP := Lib.hid (pcs_of_own ho4)
  clear ho4
  refine hK.out _ _ (fun _ => HS2.out) ?_
  clear hK K
  refine wpSeqK_step (fun K hK => ?_)
  go_simp
  refine (Lows_any d _ _ _ (Hda.out.below hw2) hm).mono ?_
  rintro e w3 ⟨A5, c5, us5, rfl, ho5, hr5, hb3⟩
  have HS3 := Lib.hid (HS2.out.trans (hb3.mono HS2.out.size))
  have hw3 := hw2.trans (hb3.mono hw2.size)
  have G3 := Lib.hid (box_step hb3 G2.out)
  replace gc := box_cells G3.out
  replace gf := box_frozen G3.out
  replace HP := Lib.hid (HP.out.below hb3)
  have HL := Lib.hid (rows_of_own ho5 hr5)
  clear ho5 hr5
  refine hK.out _ _ (fun _ => HS3.out) ?_
  clear hK K
  refine wpSeqK_step (fun K hK => ?_)
  go_simp
  refine (Highs_any d _ _ _ (Hda.out.below hw3) hm).mono ?_
  rintro e w4 ⟨A6, c6, us6, rfl, ho6, hr6, hb4⟩
  have HS4 := Lib.hid (HS3.out.trans (hb4.mono HS3.out.size))
  have hw4 := hw3.trans (hb4.mono hw3.size)
  have G4 := Lib.hid (box_step hb4 G3.out)
  replace gc := box_cells G4.out
  replace gf := box_frozen G4.out
  replace HP := Lib.hid (HP.out.below hb4)
  replace HL := Lib.hid (HL.out.below hb4)
  have HH := Lib.hid (rows_of_own ho6 hr6)
  clear ho6 hr6
  refine hK.out _ _ (fun _ => HS4.out) ?_
  clear hK K
  refine wpSeqK_step (fun K hK => ?_)
  go_simp
  refine ((tab_lows d.blocks ▸ tab_highs d.blocks ▸ Spread_any d _ _ _ _ _ (piecesL d l) _ _ _ HP.out HL.out HH.out HB.out HE.out Hpt.out (by omega) Hne.out Hd.out)).mono ?_
  rintro e w5 ⟨rfl, hb5⟩
  have HS5 := Lib.hid (HS4.out.trans (hb5.mono HS4.out.size))
  have hw5 := hw4.trans (hb5.mono hw4.size)
  have G5 := Lib.hid (box_step hb5 G4.out)
  replace gc := box_cells G5.out
  replace gf := box_frozen G5.out
  refine hK.out _ _ (fun _ => HS5.out) ?_
  clear hK K
  refine wpSeqK_step (fun K hK => ?_)
  go_simp
  refine hK.out _ _ (fun _ => HS5.out) ?_
  clear hK K
  refine wpSeqK_step (fun K hK => ?_)
  go_simp
  refine hK.out _ _ (fun _ => HS5.out) ?_
  clear hK K
  refine wpSeqK_nil ?_
  refine wpPh_nil ?_
  refine NoPanic.normal ?_
  go_wp2_with fail
  go_ret
  exact ⟨by unfold payL; rw [Int.max_comm]; rfl, hw5⟩
end Go.Proofs.YtllobkhdeahgpaaGreat
