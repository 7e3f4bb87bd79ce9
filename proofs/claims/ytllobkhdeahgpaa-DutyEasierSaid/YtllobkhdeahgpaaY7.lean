import Derived.Test.YtllobkhdeahgpaaY8
import Derived.Deep.CutBlock
set_option linter.unusedVariables false
set_option linter.unusedSimpArgs false
namespace Go.Proofs.Ytllobkhdeahgpaa
open Go Go.Proofs Go.RowKit

/-! ### DutyEasier -/
set_option maxRecDepth 100000 in
set_option maxHeartbeats 800000 in
theorem Easier_dark (d : DDay) (u z : Value) (p q y x : Nat) (w : World) (hda : DayAt w u z d) (hp : p < 256) (hq : q < 256) (hy : y < 65536) (hx : x < 65536) (hl : lightB d = false) :
    Calls Try.prog 7 #[.agg #[.int .i64 d.law.piece, .int .i64 d.law.drive, .int .i64 d.law.spread, .int .i64 d.law.brk, .int .i64 d.law.on, .int .i64 d.law.off, .int .i64 d.law.least, .int .i64 d.law.pieces, u, z], .int .u8 (p : Int), .int .u8 (q : Int), .int .u16 (y : Int), .int .u16 (x : Int)] w (Gives w (.bool true)) := by
  obtain ⟨A1, c1, rfl, _, _⟩ := hda.blocks.form
  obtain ⟨A2, c2, rfl, _, _⟩ := hda.walk.form
  have hw0 : Below w.heap.size w (w.alloc (.cells #[.int .i64 d.law.piece, .int .i64 d.law.drive, .int .i64 d.law.spread, .int .i64 d.law.brk, .int .i64 d.law.on, .int .i64 d.law.off, .int .i64 d.law.least, .int .i64 d.law.pieces, .slice A1 d.blocks.length c1, .slice A2 d.walk.length c2] 27)) := (Below.refl _ _).alloc (Nat.le_refl _) _
  have G0 := Lib.hid (heap_alloc_new w (.cells #[.int .i64 d.law.piece, .int .i64 d.law.drive, .int .i64 d.law.spread, .int .i64 d.law.brk, .int .i64 d.law.on, .int .i64 d.law.off, .int .i64 d.law.least, .int .i64 d.law.pieces, .slice A1 d.blocks.length c1, .slice A2 d.walk.length c2] 27 (0, 0)))
  have Hda := Lib.hid hda
  have Hl := Lib.hid hl
  clear hl
  clear hda
  go_enter Try.func7, Try.ntmps7
  have gc := box_cells G0.out
  have gf := box_frozen G0.out
  go_wp2_with fail
  refine (Gives.to Hl.out (light_any d _ _ _ (Hda.out.below hw0))).mono ?_
  rintro e w1 ⟨rfl, hb1⟩
  have hw1 := hw0.trans (hb1.mono hw0.size)
  have G1 := Lib.hid (box_step hb1 G0.out)
  replace gc := box_cells G1.out
  replace gf := box_frozen G1.out
  go_wp2_with fail
  refine (wakes_any _).mono ?_
  rintro e w2 ⟨rfl, hb2⟩
  have hw2 := hw1.trans (hb2.mono hw1.size)
  have G2 := Lib.hid (box_step hb2 G1.out)
  replace gc := box_cells G2.out
  replace gf := box_frozen G2.out
  go_wp2
  go_ret
  exact ⟨rfl, hw2⟩
set_option maxRecDepth 100000 in
set_option maxHeartbeats 1600000 in
theorem Easier_none (d : DDay) (u z : Value) (p q y x : Nat) (w : World) (hda : DayAt w u z d) (hp : p < 256) (hq : q < 256) (hy : y < 65536) (hx : x < 65536) (hl : lightB d = true) (hs : segN d.blocks = 0) :
    Calls Try.prog 7 #[.agg #[.int .i64 d.law.piece, .int .i64 d.law.drive, .int .i64 d.law.spread, .int .i64 d.law.brk, .int .i64 d.law.on, .int .i64 d.law.off, .int .i64 d.law.least, .int .i64 d.law.pieces, u, z], .int .u8 (p : Int), .int .u8 (q : Int), .int .u16 (y : Int), .int .u16 (x : Int)] w (Gives w (.bool true)) := by
  have hlt := hl
  unfold lightB at hlt
  rw [Bool.and_eq_true, decide_eq_true_eq] at hlt
  obtain ⟨_, hm, hf, hf0⟩ := ready_ok hlt.1
  have h8 := hlt.2
  have hd := fault_ok hf
  have Hd := Lib.hid hd
  have Hf := Lib.hid hf
  clear hlt hd hf hf0
  have hsI : (((segN d.blocks : Nat) : Int) == 0) = true := by rw [hs]; rfl
  clear hs
  obtain ⟨A1, c1, rfl, _, _⟩ := hda.blocks.form
  obtain ⟨A2, c2, rfl, _, _⟩ := hda.walk.form
  have hw0 : Below w.heap.size w (w.alloc (.cells #[.int .i64 d.law.piece, .int .i64 d.law.drive, .int .i64 d.law.spread, .int .i64 d.law.brk, .int .i64 d.law.on, .int .i64 d.law.off, .int .i64 d.law.least, .int .i64 d.law.pieces, .slice A1 d.blocks.length c1, .slice A2 d.walk.length c2] 27)) := (Below.refl _ _).alloc (Nat.le_refl _) _
  have G0 := Lib.hid (heap_alloc_new w (.cells #[.int .i64 d.law.piece, .int .i64 d.law.drive, .int .i64 d.law.spread, .int .i64 d.law.brk, .int .i64 d.law.on, .int .i64 d.law.off, .int .i64 d.law.least, .int .i64 d.law.pieces, .slice A1 d.blocks.length c1, .slice A2 d.walk.length c2] 27 (0, 0)))
  have Hda := Lib.hid hda
  have Hl := Lib.hid hl
  clear hl
  clear hda
  go_enter Try.func7, Try.ntmps7
  have gc := box_cells G0.out
  have gf := box_frozen G0.out
  go_wp2_with fail
  refine (Gives.to Hl.out (light_any d _ _ _ (Hda.out.below hw0))).mono ?_
  rintro e w1 ⟨rfl, hb1⟩
  have hw1 := hw0.trans (hb1.mono hw0.size)
  have G1 := Lib.hid (box_step hb1 G0.out)
  replace gc := box_cells G1.out
  replace gf := box_frozen G1.out
  go_wp2_with fail
  refine (Segments_any d _ _ _ (Hda.out.below hw1) hm).mono ?_
  rintro e w2 ⟨rfl, hb2⟩
  have hw2 := hw1.trans (hb2.mono hw1.size)
  have G2 := Lib.hid (box_step hb2 G1.out)
  replace gc := box_cells G2.out
  replace gf := box_frozen G2.out
  go_wp2_with fail
  refine (wakes_any _).mono ?_
  rintro e w3 ⟨rfl, hb3⟩
  have hw3 := hw2.trans (hb3.mono hw2.size)
  have G3 := Lib.hid (box_step hb3 G2.out)
  replace gc := box_cells G3.out
  replace gf := box_frozen G3.out
  go_wp2
  go_ret
  exact ⟨rfl, hw3⟩
set_option maxRecDepth 100000 in
set_option maxHeartbeats 12800000 in
theorem Easier_main (d : DDay) (u z : Value) (p q y x : Nat) (w : World) (hda : DayAt w u z d) (hp : p < 256) (hq : q < 256) (hy : y < 65536) (hx : x < 65536) (hl : lightB d = true) (hs : 0 < segN d.blocks) :
    Calls Try.prog 7 #[.agg #[.int .i64 d.law.piece, .int .i64 d.law.drive, .int .i64 d.law.spread, .int .i64 d.law.brk, .int .i64 d.law.on, .int .i64 d.law.off, .int .i64 d.law.least, .int .i64 d.law.pieces, u, z], .int .u8 (p : Int), .int .u8 (q : Int), .int .u16 (y : Int), .int .u16 (x : Int)] w (Gives w (.bool true)) := by
  have hlt := hl
  unfold lightB at hlt
  rw [Bool.and_eq_true, decide_eq_true_eq] at hlt
  obtain ⟨_, hm, hf, hf0⟩ := ready_ok hlt.1
  have h8 := hlt.2
  have hd := fault_ok hf
  have Hd := Lib.hid hd
  have Hf := Lib.hid hf
  clear hlt hd hf hf0
  have hsI : (((segN d.blocks : Nat) : Int) == 0) = false := by rw [Bool.eq_false_iff]; simp only [ne_eq, beq_iff_eq]; omega
  have hbp := blocks_pos hs
  have Hs := Lib.hid hs
  obtain ⟨i1, hi1, hy0, hy1, hy2⟩ := info_parts infoBlR
  obtain ⟨i2, hi2, hr0, hr1, hr2⟩ := info_parts infoRelR
  obtain ⟨t, ht⟩ : ∃ t : Nat, y % 200 = t := ⟨_, rfl⟩
  have htl : t < 200 := by omega
  have htI : (y : Int) % 200 = (t : Int) := by omega
  have htT : (y : Int).tmod 200 = (t : Int) := by rw [Int.tmod_eq_emod_of_nonneg (by omega)]; exact htI
  obtain ⟨kw, hkw⟩ : ∃ k : Nat, p % 9 = k := ⟨_, rfl⟩
  have hkl : kw < 9 := by omega
  have hkI : (p : Int) % 9 = (kw : Int) := by omega
  have hkT : (p : Int).tmod 9 = (kw : Int) := by rw [Int.tmod_eq_emod_of_nonneg (by omega)]; exact hkI
  have hn6 := Hd.out.blocks
  have hwl := Hd.out.places
  have Hrow := Lib.hid (show ∀ (j : Nat) (l : List Int), d.walk[j]? = some l → l.length ≤ 1000 from fun j l hl => by have := (Hd.out.row j l hl).1; omega)
  clear ht hkw
  obtain ⟨A1, c1, rfl, _, _⟩ := hda.blocks.form
  obtain ⟨A2, c2, rfl, _, _⟩ := hda.walk.form
  have hw0 : Below w.heap.size w (w.alloc (.cells #[.int .i64 d.law.piece, .int .i64 d.law.drive, .int .i64 d.law.spread, .int .i64 d.law.brk, .int .i64 d.law.on, .int .i64 d.law.off, .int .i64 d.law.least, .int .i64 d.law.pieces, .slice A1 d.blocks.length c1, .slice A2 d.walk.length c2] 27)) := (Below.refl _ _).alloc (Nat.le_refl _) _
  have G0 := Lib.hid (heap_alloc_new w (.cells #[.int .i64 d.law.piece, .int .i64 d.law.drive, .int .i64 d.law.spread, .int .i64 d.law.brk, .int .i64 d.law.on, .int .i64 d.law.off, .int .i64 d.law.least, .int .i64 d.law.pieces, .slice A1 d.blocks.length c1, .slice A2 d.walk.length c2] 27 (0, 0)))
  have Hda := Lib.hid hda
  have Hl := Lib.hid hl
  obtain ⟨bs, os, us, eA, hbs, hul, hcl, hui⟩ := blocks_src hda.blocks hbp
  have Hul := Lib.hid hul
  have Hcl := Lib.hid hcl
  have Hui := Lib.hid hui
  have HeA := Lib.hid eA
  clear hl hul hcl hui eA
  clear hda
  go_enter Try.func7, Try.ntmps7
  have gc := box_cells G0.out
  have gf := box_frozen G0.out
  go_wp2_with fail
  refine (Gives.to Hl.out (light_any d _ _ _ (Hda.out.below hw0))).mono ?_
  rintro e w1 ⟨rfl, hb1⟩
  have hw1 := hw0.trans (hb1.mono hw0.size)
  have G1 := Lib.hid (box_step hb1 G0.out)
  replace gc := box_cells G1.out
  replace gf := box_frozen G1.out
  go_wp2_with fail
  refine (Segments_any d _ _ _ (Hda.out.below hw1) hm).mono ?_
  rintro e w2 ⟨rfl, hb2⟩
  have hw2 := hw1.trans (hb2.mono hw1.size)
  have G2 := Lib.hid (box_step hb2 G1.out)
  replace gc := box_cells G2.out
  replace gf := box_frozen G2.out
  have hNw : w.heap.size < w2.heap.size := (Array.getElem?_eq_some_iff.1 G2.out).1
  go_wp2_with fail
  have hbx : Below w2.heap.size w2 (w2.alloc (.cells #[.int .i64 d.law.piece, .int .i64 d.law.drive, .int .i64 d.law.spread, .int .i64 d.law.brk, .int .i64 d.law.on, .int .i64 d.law.off, .int .i64 d.law.least, .int .i64 d.law.pieces, .slice A1 d.blocks.length c1, .slice A2 d.walk.length c2] 27)) := (Below.refl _ _).alloc (Nat.le_refl _) _
  have hwx := hw2.trans (hbx.mono hw2.size)
  have Xx := Lib.hid (heap_alloc_new w2 (.cells #[.int .i64 d.law.piece, .int .i64 d.law.drive, .int .i64 d.law.spread, .int .i64 d.law.brk, .int .i64 d.law.on, .int .i64 d.law.off, .int .i64 d.law.least, .int .i64 d.law.pieces, .slice A1 d.blocks.length c1, .slice A2 d.walk.length c2] 27))
  have Gx := Lib.hid (box_step hbx G2.out)
  refine (rows_apart _ d.walk _ (Hda.out.walk.below hwx) (by omega) Hrow.out).mono ?_
  rintro e w3 ⟨Aw, cw, usw, rfl, how, hrw, hap, hb3⟩
  have hw3 := hwx.trans (hb3.mono hwx.size)
  have G3 := Lib.hid (box_step hb3 Gx.out)
  have X3 := Lib.hid (box_step hb3 Xx.out)
  have hN3 : w2.heap.size < (w2.alloc (.cells #[.int .i64 d.law.piece, .int .i64 d.law.drive, .int .i64 d.law.spread, .int .i64 d.law.brk, .int .i64 d.law.on, .int .i64 d.law.off, .int .i64 d.law.least, .int .i64 d.law.pieces, .slice A1 d.blocks.length c1, .slice A2 d.walk.length c2] 27)).heap.size := (Array.getElem?_eq_some_iff.1 Xx.out).1
  have Hap := Lib.hid hap
  clear hap Xx Gx
  generalize (w2.alloc (.cells #[.int .i64 d.law.piece, .int .i64 d.law.drive, .int .i64 d.law.spread, .int .i64 d.law.brk, .int .i64 d.law.on, .int .i64 d.law.off, .int .i64 d.law.least, .int .i64 d.law.pieces, .slice A1 d.blocks.length c1, .slice A2 d.walk.length c2] 27)).heap.size = M at *
  generalize w2.heap.size = N at *
  replace gc := box_cells G3.out
  replace gf := box_frozen G3.out
  have xc := box_cells X3.out
  have xf := box_frozen X3.out
  have X4 := blk_set X3.out (o := 9) (.slice Aw d.walk.length cw)
  simp only [List.setIfInBounds_toArray, List.set_cons_succ, List.set_cons_zero] at X4
  have hX4 := Lib.hid X4
  clear X4
  go_upto_region 7 with (fail)
  refine wp_name (fun V => Below w.heap.size w V ∧ V.heap[w.heap.size]? = some (.cells #[.int .i64 d.law.piece, .int .i64 d.law.drive, .int .i64 d.law.spread, .int .i64 d.law.brk, .int .i64 d.law.on, .int .i64 d.law.off, .int .i64 d.law.least, .int .i64 d.law.pieces, .slice A1 d.blocks.length c1, .slice A2 d.walk.length c2] 27 (0, 0)) ∧ V.heap[N]? = some (.cells #[.int .i64 d.law.piece, .int .i64 d.law.drive, .int .i64 d.law.spread, .int .i64 d.law.brk, .int .i64 d.law.on, .int .i64 d.law.off, .int .i64 d.law.least, .int .i64 d.law.pieces, .slice A1 d.blocks.length c1, .slice Aw d.walk.length cw] 27 (0, 0)) ∧ V.ownsRow M 28 1 (.slice Aw d.walk.length cw) d.walk.length usw ∧ RowsOwn V M usw d.walk) ⟨hw3.setCell (by simp only; omega) _, blk_other G3.out (by omega) _, hX4.out, own_set how (own_not how X3.out (by decide)) _, hrw.set X3.out (by decide) _⟩ (fun w4 hW => ?_)
  obtain ⟨hw4, h41, h42, h43, h44⟩ := hW
  have G4 := Lib.hid h41
  have X4 := Lib.hid h42
  have Hwo := Lib.hid h43
  have Hwr := Lib.hid h44
  have hN4 : N < w4.heap.size := (Array.getElem?_eq_some_iff.1 h42).1
  have hw4s : w.heap.size < w4.heap.size := by omega
  clear h41 h42 h43 h44 hX4 X3 G3 how hrw xc xf gc gf G0 G1 G2 hb1 hb2 hb3 hbx
  have gc := box_cells G4.out
  have gf := box_frozen G4.out
  have xc := box_cells X4.out
  have xf := box_frozen X4.out
  obtain ⟨rfl⟩ : A1 = some ⟨bs, os, none⟩ := HeA.out
  have ho : (w4.alloc (.cells #[] 56)).ownsRow w4.heap.size 56 1 (.slice (some ⟨w4.heap.size, 0, none⟩) 0 0) 0 [] := World.ownsRow_lit w4 #[] 0 (Nat.le_refl _) (by simp [maxLen]) (by simp)
  have hsrc : Src (w4.alloc (.cells #[] 56)) (some ⟨bs, os, none⟩) d.blocks.length 1 us := by
    have h := src_cells Hul.out (fun j u hu => cell_below hw4 (Hcl.out j u hu)) 0 (m := d.blocks.length) (by omega)
    rw [List.drop_zero, Nat.add_zero, List.take_of_length_le (by rw [Hul.out]; exact Nat.le_refl _)] at h
    exact h.below ((Below.refl _ _).alloc (Nat.le_refl _) _)
  have Ho := Lib.hid ho
  have Hsrc := Lib.hid hsrc
  have Hone := Lib.hid (BlocksIn.one Hui.out)
  have hb0 : Below w4.heap.size w4 (w4.alloc (.cells #[] 56)) := (Below.refl _ _).alloc (Nat.le_refl _) _
  clear ho hsrc
  go_upto_region 8 with (at_builtin; go_loud (refine wpList_append_src _ rfl (.tmp 46) (.tmp 48) 24 rfl w4.heap.size 56 i1 _ 1 24 Try.underlying24 hi1 hy0 hy1 hy2 rfl (by omega) _ 0 [] rfl Ho.out (some ⟨bs, os, none⟩) d.blocks.length c1 us rfl Hsrc.out Hone.out (by simp [maxLen]; omega) (by omega) (by simp) ?_; intro v1 w1' hown1 hg1 hat1; rw [Nat.zero_add, List.nil_append] at hown1; have Hb1 := Lib.hid (below_grown hb0 hg1 (by simp) Ho.out (Nat.le_refl _)); obtain ⟨A7, c7, rfl⟩ := own_form hown1; have Hown1 := Lib.hid hown1; have g81 := box_cells (box_step Hb1.out X4.out) 8; have gf1 := box_frozen (box_step Hb1.out X4.out) 8; clear hown1 hg1 hat1))
  have X5 := Lib.hid (box_step Hb1.out X4.out)
  refine wp_name (fun V => Ez w V d (.slice (some ⟨bs, os, none⟩) d.blocks.length c1) (.slice A2 d.walk.length c2) N w4.heap.size M d.law (.slice A7 d.blocks.length c7) (.slice Aw d.walk.length cw) us usw d.blocks d.walk) ?_ (fun w5 hW => ?_)
  · have hX2 := blk_set X5.out (o := 8) (.slice A7 d.blocks.length c7)
    simp only [List.setIfInBounds_toArray, List.set_cons_succ, List.set_cons_zero] at hX2
    have hb5 := (hw4.trans (Hb1.out.mono hw4.size)).setCell (p := ⟨N, 8, none⟩) (by simp only; omega) (.slice A7 d.blocks.length c7)
    exact ⟨hb5, blk_other (box_step Hb1.out G4.out) (by omega) _, hX2, own_set Hown1.out (own_not Hown1.out X5.out (by decide)) _, Hui.out.below hb5, own_set (own_below Hwo.out Hb1.out) (own_not (own_below Hwo.out Hb1.out) X5.out (by decide)) _, (Hwr.out.below Hb1.out).set X5.out (by decide) _⟩
  have HW := Lib.hid hW
  have hw5 := HW.out.bel
  clear hW Hb1 Hown1 g81 gf1 X5 X4 G4 gc gf xc xf Ho Hsrc Hwo Hwr
  have gc := box_cells HW.out.box
  have gf := box_frozen HW.out.box
  have xc := box_cells HW.out.out
  have xf := box_frozen HW.out.out
  have hN5 : N < w5.heap.size := (Array.getElem?_eq_some_iff.1 HW.out.out).1
  have HIn := Hui
  obtain ⟨l0, l1, l2, l3, l4, l5, l6, l7⟩ := Hd.out.law
  go_upto_block 0 with (fail)
  go_cut [14, 15, 16, 17, 18] from 53 to 210 (fun s14 s15 s16 s17 s18 wx => ∃ (X : DDay) (u1 z1 : Value), EasierDay d X ∧ Mild X ∧ Below w.heap.size w wx ∧ wx.heap[w.heap.size]? = some (.cells #[.int .i64 d.law.piece, .int .i64 d.law.drive, .int .i64 d.law.spread, .int .i64 d.law.brk, .int .i64 d.law.on, .int .i64 d.law.off, .int .i64 d.law.least, .int .i64 d.law.pieces, .slice (some ⟨bs, os, none⟩) d.blocks.length c1, .slice A2 d.walk.length c2] 27 (0, 0)) ∧ wx.heap[N]? = some (.cells #[.int .i64 X.law.piece, .int .i64 X.law.drive, .int .i64 X.law.spread, .int .i64 X.law.brk, .int .i64 X.law.on, .int .i64 X.law.off, .int .i64 X.law.least, .int .i64 X.law.pieces, u1, z1] 27 (0, 0)) ∧ DayAt wx u1 z1 X)
  case first =>
    have hkc : kw = 0 ∨ kw = 1 ∨ kw = 2 ∨ kw = 3 ∨ kw = 4 ∨ kw = 5 ∨ kw = 6 ∨ kw = 7 ∨ kw = 8 := by omega
    rcases hkc with hk | hk | hk | hk | hk | hk | hk | hk | hk
    · have q0 : ((kw : Int) == 0) = true := by rw [hk]; rfl
      clear hk hkI hkT
      have hv : IntKind.i64.wrap (d.law.piece + (t : Int)) = d.law.piece + (t : Int) := IntWalk.i64_in _ (by omega)
      have hS := blk_set HW.out.out (o := 0) (.int .i64 (min 3000 (d.law.piece + (t : Int))))
      simp only [List.setIfInBounds_toArray, List.set_cons_succ, List.set_cons_zero] at hS
      have hE := HW.out.law (l' := { d.law with piece := min 3000 (d.law.piece + (t : Int)) }) hNw HIn.out hS
      have HE := Lib.hid hE
      clear hS hE
      go_wp2_with fail
      go_meet
      case rel => exact ⟨lawD d { d.law with piece := min 3000 (d.law.piece + (t : Int)) }, _, _, easier_law (by simp only; omega), ⟨hm.blocks, hm.block, hm.walk, hm.row⟩, HE.out.bel, HE.out.box, HE.out.out, HE.out.day⟩
    · have q0 : ((kw : Int) == 0) = false := by rw [Bool.eq_false_iff]; simp only [ne_eq, beq_iff_eq]; omega
      have q1 : ((kw : Int) == 1) = true := by rw [hk]; rfl
      clear hk hkI hkT
      have hv : IntKind.i64.wrap (d.law.drive + (t : Int)) = d.law.drive + (t : Int) := IntWalk.i64_in _ (by omega)
      have hS := blk_set HW.out.out (o := 1) (.int .i64 (min 3000 (d.law.drive + (t : Int))))
      simp only [List.setIfInBounds_toArray, List.set_cons_succ, List.set_cons_zero] at hS
      have hE := HW.out.law (l' := { d.law with drive := min 3000 (d.law.drive + (t : Int)) }) hNw HIn.out hS
      have HE := Lib.hid hE
      clear hS hE
      go_wp2_with fail
      go_meet
      case rel => exact ⟨lawD d { d.law with drive := min 3000 (d.law.drive + (t : Int)) }, _, _, easier_law (by simp only; omega), ⟨hm.blocks, hm.block, hm.walk, hm.row⟩, HE.out.bel, HE.out.box, HE.out.out, HE.out.day⟩
    · have q0 : ((kw : Int) == 0) = false := by rw [Bool.eq_false_iff]; simp only [ne_eq, beq_iff_eq]; omega
      have q1 : ((kw : Int) == 1) = false := by rw [Bool.eq_false_iff]; simp only [ne_eq, beq_iff_eq]; omega
      have q2 : ((kw : Int) == 2) = true := by rw [hk]; rfl
      clear hk hkI hkT
      have hv : IntKind.i64.wrap (d.law.spread + (t : Int)) = d.law.spread + (t : Int) := IntWalk.i64_in _ (by omega)
      have hS := blk_set HW.out.out (o := 2) (.int .i64 (min 3000 (d.law.spread + (t : Int))))
      simp only [List.setIfInBounds_toArray, List.set_cons_succ, List.set_cons_zero] at hS
      have hE := HW.out.law (l' := { d.law with spread := min 3000 (d.law.spread + (t : Int)) }) hNw HIn.out hS
      have HE := Lib.hid hE
      clear hS hE
      go_wp2_with fail
      go_meet
      case rel => exact ⟨lawD d { d.law with spread := min 3000 (d.law.spread + (t : Int)) }, _, _, easier_law (by simp only; omega), ⟨hm.blocks, hm.block, hm.walk, hm.row⟩, HE.out.bel, HE.out.box, HE.out.out, HE.out.day⟩
    · have q0 : ((kw : Int) == 0) = false := by rw [Bool.eq_false_iff]; simp only [ne_eq, beq_iff_eq]; omega
      have q1 : ((kw : Int) == 1) = false := by rw [Bool.eq_false_iff]; simp only [ne_eq, beq_iff_eq]; omega
      have q2 : ((kw : Int) == 2) = false := by rw [Bool.eq_false_iff]; simp only [ne_eq, beq_iff_eq]; omega
      have q3 : ((kw : Int) == 3) = true := by rw [hk]; rfl
      clear hk hkI hkT
      have hv : IntKind.i64.wrap (d.law.pieces + 1) = d.law.pieces + 1 := IntWalk.i64_in _ (by omega)
      have hS := blk_set HW.out.out (o := 7) (.int .i64 (min 3 (d.law.pieces + 1)))
      simp only [List.setIfInBounds_toArray, List.set_cons_succ, List.set_cons_zero] at hS
      have hE := HW.out.law (l' := { d.law with pieces := min 3 (d.law.pieces + 1) }) hNw HIn.out hS
      have HE := Lib.hid hE
      clear hS hE
      go_wp2_with fail
      go_meet
      case rel => exact ⟨lawD d { d.law with pieces := min 3 (d.law.pieces + 1) }, _, _, easier_law (by simp only; omega), ⟨hm.blocks, hm.block, hm.walk, hm.row⟩, HE.out.bel, HE.out.box, HE.out.out, HE.out.day⟩
    · have q0 : ((kw : Int) == 0) = false := by rw [Bool.eq_false_iff]; simp only [ne_eq, beq_iff_eq]; omega
      have q1 : ((kw : Int) == 1) = false := by rw [Bool.eq_false_iff]; simp only [ne_eq, beq_iff_eq]; omega
      have q2 : ((kw : Int) == 2) = false := by rw [Bool.eq_false_iff]; simp only [ne_eq, beq_iff_eq]; omega
      have q3 : ((kw : Int) == 3) = false := by rw [Bool.eq_false_iff]; simp only [ne_eq, beq_iff_eq]; omega
      have q4 : ((kw : Int) == 4) = true := by rw [hk]; rfl
      clear hk hkI hkT
      have hv : IntKind.i64.wrap (d.law.brk - (t : Int)) = d.law.brk - (t : Int) := IntWalk.i64_in _ (by omega)
      have hS := blk_set HW.out.out (o := 3) (.int .i64 (max 1 (d.law.brk - (t : Int))))
      simp only [List.setIfInBounds_toArray, List.set_cons_succ, List.set_cons_zero] at hS
      have hE := HW.out.law (l' := { d.law with brk := max 1 (d.law.brk - (t : Int)) }) hNw HIn.out hS
      have HE := Lib.hid hE
      clear hS hE
      go_wp2_with fail
      go_meet
      case rel => exact ⟨lawD d { d.law with brk := max 1 (d.law.brk - (t : Int)) }, _, _, easier_law (by simp only; omega), ⟨hm.blocks, hm.block, hm.walk, hm.row⟩, HE.out.bel, HE.out.box, HE.out.out, HE.out.day⟩
    · have q0 : ((kw : Int) == 0) = false := by rw [Bool.eq_false_iff]; simp only [ne_eq, beq_iff_eq]; omega
      have q1 : ((kw : Int) == 1) = false := by rw [Bool.eq_false_iff]; simp only [ne_eq, beq_iff_eq]; omega
      have q2 : ((kw : Int) == 2) = false := by rw [Bool.eq_false_iff]; simp only [ne_eq, beq_iff_eq]; omega
      have q3 : ((kw : Int) == 3) = false := by rw [Bool.eq_false_iff]; simp only [ne_eq, beq_iff_eq]; omega
      have q4 : ((kw : Int) == 4) = false := by rw [Bool.eq_false_iff]; simp only [ne_eq, beq_iff_eq]; omega
      have q5 : ((kw : Int) == 5) = true := by rw [hk]; rfl
      clear hk hkI hkT
      have hv : IntKind.i64.wrap (d.law.on - (t : Int)) = d.law.on - (t : Int) := IntWalk.i64_in _ (by omega)
      have hS := blk_set HW.out.out (o := 4) (.int .i64 (max 0 (d.law.on - (t : Int))))
      simp only [List.setIfInBounds_toArray, List.set_cons_succ, List.set_cons_zero] at hS
      have hE := HW.out.law (l' := { d.law with on := max 0 (d.law.on - (t : Int)) }) hNw HIn.out hS
      have HE := Lib.hid hE
      clear hS hE
      go_wp2_with fail
      go_meet
      case rel => exact ⟨lawD d { d.law with on := max 0 (d.law.on - (t : Int)) }, _, _, easier_law (by simp only; omega), ⟨hm.blocks, hm.block, hm.walk, hm.row⟩, HE.out.bel, HE.out.box, HE.out.out, HE.out.day⟩
    · have q0 : ((kw : Int) == 0) = false := by rw [Bool.eq_false_iff]; simp only [ne_eq, beq_iff_eq]; omega
      have q1 : ((kw : Int) == 1) = false := by rw [Bool.eq_false_iff]; simp only [ne_eq, beq_iff_eq]; omega
      have q2 : ((kw : Int) == 2) = false := by rw [Bool.eq_false_iff]; simp only [ne_eq, beq_iff_eq]; omega
      have q3 : ((kw : Int) == 3) = false := by rw [Bool.eq_false_iff]; simp only [ne_eq, beq_iff_eq]; omega
      have q4 : ((kw : Int) == 4) = false := by rw [Bool.eq_false_iff]; simp only [ne_eq, beq_iff_eq]; omega
      have q5 : ((kw : Int) == 5) = false := by rw [Bool.eq_false_iff]; simp only [ne_eq, beq_iff_eq]; omega
      have q6 : ((kw : Int) == 6) = true := by rw [hk]; rfl
      clear hk hkI hkT
      have hv : IntKind.i64.wrap (d.law.off - (t : Int)) = d.law.off - (t : Int) := IntWalk.i64_in _ (by omega)
      have hS := blk_set HW.out.out (o := 5) (.int .i64 (max 0 (d.law.off - (t : Int))))
      simp only [List.setIfInBounds_toArray, List.set_cons_succ, List.set_cons_zero] at hS
      have hE := HW.out.law (l' := { d.law with off := max 0 (d.law.off - (t : Int)) }) hNw HIn.out hS
      have HE := Lib.hid hE
      clear hS hE
      go_wp2_with fail
      go_meet
      case rel => exact ⟨lawD d { d.law with off := max 0 (d.law.off - (t : Int)) }, _, _, easier_law (by simp only; omega), ⟨hm.blocks, hm.block, hm.walk, hm.row⟩, HE.out.bel, HE.out.box, HE.out.out, HE.out.day⟩
    · have q0 : ((kw : Int) == 0) = false := by rw [Bool.eq_false_iff]; simp only [ne_eq, beq_iff_eq]; omega
      have q1 : ((kw : Int) == 1) = false := by rw [Bool.eq_false_iff]; simp only [ne_eq, beq_iff_eq]; omega
      have q2 : ((kw : Int) == 2) = false := by rw [Bool.eq_false_iff]; simp only [ne_eq, beq_iff_eq]; omega
      have q3 : ((kw : Int) == 3) = false := by rw [Bool.eq_false_iff]; simp only [ne_eq, beq_iff_eq]; omega
      have q4 : ((kw : Int) == 4) = false := by rw [Bool.eq_false_iff]; simp only [ne_eq, beq_iff_eq]; omega
      have q5 : ((kw : Int) == 5) = false := by rw [Bool.eq_false_iff]; simp only [ne_eq, beq_iff_eq]; omega
      have q6 : ((kw : Int) == 6) = false := by rw [Bool.eq_false_iff]; simp only [ne_eq, beq_iff_eq]; omega
      have q7 : ((kw : Int) == 7) = true := by rw [hk]; rfl
      clear hk hkI hkT
      have wl0 : ¬ (d.walk.length : Int) = 0 := by omega
      obtain ⟨r, hr⟩ : ∃ r, q % d.walk.length = r := ⟨_, rfl⟩
      have hrl : r < d.walk.length := by rw [← hr]; exact Nat.mod_lt _ (by omega)
      have hrI : (q : Int) % (d.walk.length : Int) = (r : Int) := by rw [← hr]; push_cast; rfl
      have hrT : (q : Int).tmod (d.walk.length : Int) = (r : Int) := by rw [Int.tmod_eq_emod_of_nonneg (by omega)]; exact hrI
      clear hr
      obtain ⟨row, hrow⟩ : ∃ row, d.walk[r]? = some row := ⟨_, List.getElem?_eq_getElem hrl⟩
      have hrn := (Hd.out.row r row hrow).1
      have hrx := (Hd.out.row r row hrow).2.1
      have rl1 : 0 < row.length := by omega
      have rl0 : ¬ (row.length : Int) = 0 := by omega
      obtain ⟨u0, hu0, ho0⟩ := HW.out.wr.2 r row hrow
      obtain ⟨A0, ca, rfl⟩ := own_form ho0
      obtain ⟨g, rfl, hgM, hgV⟩ := own_some ho0 rl1
      obtain ⟨gw, rfl, hgw, _⟩ := own_some HW.out.wo (by omega)
      have hcur := (HW.out.wo.cellAt r (by omega)).trans hu0
      obtain ⟨k, hk2⟩ : ∃ k, t % row.length = k := ⟨_, rfl⟩
      have hkl2 : k < row.length := by rw [← hk2]; exact Nat.mod_lt _ (by omega)
      have hkI2 : (t : Int) % (row.length : Int) = (k : Int) := by rw [← hk2]; push_cast; rfl
      have hkT2 : (t : Int).tmod (row.length : Int) = (k : Int) := by rw [Int.tmod_eq_emod_of_nonneg (by omega)]; exact hkI2
      clear hk2
      obtain ⟨y0, hy0'⟩ : ∃ y0, row[k]? = some y0 := ⟨_, List.getElem?_eq_getElem hkl2⟩
      have hyb := hrx y0 (List.mem_of_getElem? hy0')
      have hck := (ho0.cellAt k (by omega)).trans (show (row.map (Value.int .i64))[k]? = some (.int .i64 y0) by rw [List.getElem?_map, hy0']; rfl)
      have HO := Lib.hid ho0
      have Hu0 := Lib.hid hu0
      have Hrow := Lib.hid hrow
      have Hy0 := Lib.hid hy0'
      clear ho0 hu0 hrow hy0' hrx hrn
      go_wp2_with fail
      refine wp_region_noPanic ?_
      refine wp_region_pick [0, 1, 2, 3, 4, 5, 6, 7, 8, 9] [10] (fun _ => true) (fun w' => Below w5.heap.size w5 w') (by kernel_rfl) (by kernel_rfl) (fun _ _ _ _ _ h => h) (Below.refl _ _).drew (fun hne => ?_)
      have n0 := fun x : Meets (fun w' => Below w5.heap.size w5 w') => cell_below x.property (box_cells HW.out.out 9)
      have n1 := fun x : Meets (fun w' => Below w5.heap.size w5 w') => cell_below x.property hcur
      simp only [pick, pickN, List.filterMap_cons, List.filterMap_nil, List.getElem?_cons_zero, List.getElem?_cons_succ, Option.map_some]
      repeat (change wpQuiet _ _ _ _ (_ :: _) _; go_big_quiet_step (fail))
      refine wpQuiet_nil ?_
      clear n0 n1 hne hcur gc gf xc xf
      have hB0 : Below w5.heap.size w5 w5.drew := (Below.refl _ _).drew
      have H6 := Lib.hid (HW.out.below hB0)
      have HO6 := Lib.hid (own_below HO.out hB0)
      have hck6 := cell_below hB0 hck
      have fz := fun o => HO6.out.frozenAt o
      clear hck
      obtain ⟨w6, hw6⟩ : ∃ V, V = w5.drew := ⟨_, rfl⟩
      rw [← hw6] at hB0 H6 HO6 hck6 fz ⊢
      clear hw6
      refine wpSeqP_step (fun K hK => ?_)
      go_simp
      refine hK.out _ _ (fun _ => hB0) ?_
      clear hK K
      refine wpSeqP_nil ?_
      refine NoPanic.normal ?_
      have hv : IntKind.i64.wrap (y0 - (t : Int)) = y0 - (t : Int) := IntWalk.i64_in _ (by omega)
      go_wp2_with fail
      go_meet
      case rel =>
        have hst := HO6.out.stored k (.int .i64 (max 0 (y0 - (t : Int))))
        have hbV : Below w.heap.size w (w6.setCell ⟨g, k, none⟩ (.int .i64 (max 0 (y0 - (t : Int))))) := H6.out.bel.setCell (p := ⟨g, k, none⟩) (by simp only; omega) _
        exact ⟨walD d r (row.set k (max 0 (y0 - (t : Int)))), _, _, easier_walk Hrow.out Hy0.out (by omega), walD_mild _ hm Hrow.out, hbV, blk_other H6.out.box (by omega) _, blk_other H6.out.out (by omega) _, blocks_of_in (H6.out.bo.kept hst.2 (own_apart H6.out.bo HO6.out (by decide))) (HIn.out.below hbV), rows_of_own (H6.out.wo.kept hst.2 (own_apart H6.out.wo HO6.out (by decide))) (H6.out.wr.stored Hap.out Hu0.out Hrow.out)⟩
    · have q0 : ((kw : Int) == 0) = false := by rw [Bool.eq_false_iff]; simp only [ne_eq, beq_iff_eq]; omega
      have q1 : ((kw : Int) == 1) = false := by rw [Bool.eq_false_iff]; simp only [ne_eq, beq_iff_eq]; omega
      have q2 : ((kw : Int) == 2) = false := by rw [Bool.eq_false_iff]; simp only [ne_eq, beq_iff_eq]; omega
      have q3 : ((kw : Int) == 3) = false := by rw [Bool.eq_false_iff]; simp only [ne_eq, beq_iff_eq]; omega
      have q4 : ((kw : Int) == 4) = false := by rw [Bool.eq_false_iff]; simp only [ne_eq, beq_iff_eq]; omega
      have q5 : ((kw : Int) == 5) = false := by rw [Bool.eq_false_iff]; simp only [ne_eq, beq_iff_eq]; omega
      have q6 : ((kw : Int) == 6) = false := by rw [Bool.eq_false_iff]; simp only [ne_eq, beq_iff_eq]; omega
      have q7 : ((kw : Int) == 7) = false := by rw [Bool.eq_false_iff]; simp only [ne_eq, beq_iff_eq]; omega
      clear hk hkI hkT
      have bl0 : ¬ (d.blocks.length : Int) = 0 := by omega
      obtain ⟨b, hb⟩ : ∃ b, q % d.blocks.length = b := ⟨_, rfl⟩
      have hbl : b < d.blocks.length := by rw [← hb]; exact Nat.mod_lt _ (by omega)
      have hbI : (q : Int) % (d.blocks.length : Int) = (b : Int) := by rw [← hb]; push_cast; rfl
      have hbT : (q : Int).tmod (d.blocks.length : Int) = (b : Int) := by rw [Int.tmod_eq_emod_of_nonneg (by omega)]; exact hbI
      clear hb
      obtain ⟨l, hlb⟩ : ∃ l, d.blocks[b]? = some l := ⟨_, List.getElem?_eq_getElem hbl⟩
      have h2l := Hd.out.two b l hlb
      have hl14 := hm.block b l hlb
      have ll0 : ¬ (l.length : Int) = 0 := by omega
      obtain ⟨i0, hi0⟩ : ∃ k, t % l.length = k := ⟨_, rfl⟩
      have hi0l : i0 < l.length := by rw [← hi0]; exact Nat.mod_lt _ (by omega)
      have hi0I : (t : Int) % (l.length : Int) = (i0 : Int) := by rw [← hi0]; push_cast; rfl
      have hi0T : (t : Int).tmod (l.length : Int) = (i0 : Int) := by rw [Int.tmod_eq_emod_of_nonneg (by omega)]; exact hi0I
      clear hi0
      obtain ⟨tc, htc⟩ : ∃ k, t % 7 = k := ⟨_, rfl⟩
      have htc7 : tc < 7 := by omega
      have htcI : (t : Int) % 7 = (tc : Int) := by omega
      have htcT : (t : Int).tmod 7 = (tc : Int) := by rw [Int.tmod_eq_emod_of_nonneg (by omega)]; exact htcI
      clear htc
      obtain ⟨u0, hu0, hrl⟩ := HW.out.bi.2 b l hlb
      obtain ⟨A5, c5, rfl, _, _⟩ := hrl.form
      obtain ⟨gB, rfl, hgB, hgBV⟩ := own_some HW.out.bo (by omega)
      have hcub := (HW.out.bo.cellAt b (by omega)).trans hu0
      have ho : (w5.alloc (.cells #[] 55)).ownsRow w5.heap.size 55 3 (.slice (some ⟨w5.heap.size, 0, none⟩) 0 0) 0 [] := World.ownsRow_lit w5 #[] 0 (Nat.le_refl _) (by simp [maxLen]) (by simp)
      have hsrc : Src (w5.alloc (.cells #[] 55)) A5 l.length 3 (relCells l) := (rels_src hrl).below ((Below.refl _ _).alloc (Nat.le_refl _) _)
      have Ho := Lib.hid ho
      have Hsrc := Lib.hid hsrc
      have Hone := Lib.hid (relCells_one l)
      have Hlb := Lib.hid hlb
      have Hu0 := Lib.hid hu0
      have hb0 : Below w5.heap.size w5 (w5.alloc (.cells #[] 55)) := (Below.refl _ _).alloc (Nat.le_refl _) _
      clear hrl ho hsrc hlb hu0
      go_wp2_with (at_builtin; go_loud (refine wpList_append_src _ rfl (.tmp 59) (.tmp 64) 56 rfl w5.heap.size 55 i2 _ 3 24 Try.underlying56 hi2 hr0 hr1 hr2 rfl (by omega) _ 0 [] rfl Ho.out A5 l.length c5 (relCells l) rfl Hsrc.out Hone.out (by simp [maxLen]; omega) (by omega) (by simp) ?_; intro v1 w1 hown1 hg1 hat1; rw [Nat.zero_add, List.nil_append] at hown1; have Hb1 := Lib.hid (below_grown hb0 hg1 (by simp) Ho.out (Nat.le_refl _)); obtain ⟨A9, c9, rfl⟩ := own_form hown1; have Hown1 := Lib.hid hown1; clear hown1 hg1 hat1))
      obtain ⟨g, rfl, hgb, _⟩ := own_some Hown1.out (by omega)
      clear hcub gc gf xc xf
      go_loopw [18] (fun i wr => ∃ m : Nat, i0 ≤ m ∧ m ≤ l.length ∧ i = .int .i64 m ∧ Below w5.heap.size w5 wr ∧ wr.ownsRow w5.heap.size 55 3 (.slice (some ⟨g, 0, none⟩) l.length c9) l.length (relCells (easK (tc : Int) i0 l m))) (fun i wr => l.length - (intOf i).toNat)
      case atStart => exact ⟨i0, Nat.le_refl _, by omega, rfl, Hb1.out, by rw [easK_start]; exact Hown1.out⟩
      case round =>
        obtain ⟨m, him, hmk, rfl, hb2, hown⟩ := hrel
        obtain ⟨wq, rfl⟩ : ∃ wq : World, wq = wr := ⟨_, rfl⟩
        have Hown := Lib.hid hown
        have hs2 := hb2.size
        clear hown
        by_cases hlm : m < l.length
        · have hmI : (m : Int) < (l.length : Int) := by omega
          have hr := List.getElem?_eq_getElem hlm
          obtain ⟨r, hrr⟩ : ∃ r, l[m] = r := ⟨_, rfl⟩
          rw [hrr] at hr
          have hok := Hd.out.rel b l m r Hlb.out hr
          have hlo := hok.lo
          have hhi := hok.hi
          have hlat : (easK (tc : Int) i0 l m)[m]? = some r := easK_get (tc : Int) hr
          have e1 := relCells_get hlat (j := 1) (by omega)
          have e2 := relCells_get hlat (j := 2) (by omega)
          have hset := relCells_lo (min r.hi (r.lo + tc)) hlat
          rw [show (⟨r.place, min r.hi (r.lo + tc), r.hi⟩ : Rel) = easR (tc : Int) r from rfl, easK_step (tc : Int) hr him] at hset
          have Hset := Lib.hid hset
          have hown0 := own_below Hown.out (Below.refl wq.heap.size wq).drew
          have x1 : wq.drew.cell? ⟨g, m * 3 + 1, none⟩ = some (.int .i64 r.lo) := (hown0.cellAt (m * 3 + 1) (by omega)).trans e1
          have x2 : wq.drew.cell? ⟨g, m * 3 + 2, none⟩ = some (.int .i64 r.hi) := (hown0.cellAt (m * 3 + 2) (by omega)).trans e2
          have Hown0 := Lib.hid hown0
          have hw1 : IntKind.i64.wrap (r.lo + (tc : Int)) = r.lo + tc := IntWalk.i64_in _ (by omega)
          clear hrr hr hok hlat e1 e2 hset hown0
          go_wp2_with fail
          refine wp_region_noPanic ?_
          refine wp_region_pick [0, 1, 2, 3, 4, 5, 6, 7, 8, 9, 10, 11, 12, 13, 14, 15, 16] [17, 18, 19, 20, 21] (fun i => !(i == 21)) (fun w' => w'.cell? ⟨g, m * 3 + 1, none⟩ = some (.int .i64 r.lo) ∧ w'.cell? ⟨g, m * 3 + 2, none⟩ = some (.int .i64 r.hi)) (by kernel_rfl) (by kernel_rfl) (fun _ _ _ _ _ h => h) ⟨x1, x2⟩ (fun hne => ?_)
          have m0 := fun q : Meets (fun w' => w'.cell? ⟨g, m * 3 + 1, none⟩ = some (.int .i64 r.lo) ∧ w'.cell? ⟨g, m * 3 + 2, none⟩ = some (.int .i64 r.hi)) => q.property
          have n1 := fun q => (m0 q).1
          have n2 := fun q => (m0 q).2
          clear m0
          simp only [pick, pickN, List.filterMap_cons, List.filterMap_nil, List.getElem?_cons_zero, List.getElem?_cons_succ, Option.map_some]
          repeat (change wpQuiet _ _ _ _ (_ :: _) _; go_big_quiet_step (fail))
          refine wpQuiet_nil ?_
          clear n1 n2 hne hw1
          have hbd : Below w5.heap.size w5 wq.drew := hb2.drew
          have fz := fun o => Hown0.out.frozenAt o
          generalize wq.drew = v0 at *
          refine wpSeqP_step (fun K hK => ?_)
          go_simp
          refine hK.out _ _ (fun _ => ⟨x1, x2⟩) ?_
          clear hK K
          refine wpSeqP_step (fun K hK => ?_)
          go_simp
          refine hK.out _ _ (fun _ => ⟨x1, x2⟩) ?_
          clear hK K
          refine wpSeqP_step (fun K hK => ?_)
          go_simp
          refine hK.out _ _ (fun _ => ⟨x1, x2⟩) ?_
          clear hK K
          refine wpSeqP_step (fun K hK => ?_)
          go_simp
          refine hK.out _ _ (fun _ => ⟨x1, x2⟩) ?_
          clear hK K
          refine wpSeqP_step (fun K hK => ?_)
          go_simp
          refine hK.out _ _ (fun h => by cases h) ?_
          clear hK K x1 x2 fz
          have hO := (Hown0.out.stored (m * 3 + 1) (.int .i64 (min r.hi (r.lo + tc)))).1
          rw [Hset.out] at hO
          have HO := Lib.hid hO
          have HB := Lib.hid (hbd.setCell (p := ⟨g, m * 3 + 1, none⟩) hgb (.int .i64 (min r.hi (r.lo + tc))))
          clear hO
          refine wpSeqP_nil ?_
          refine NoPanic.normal ?_
          go_wp2_with fail
          go_roundw
          case rel => exact ⟨m + 1, by omega, by omega, by go_num, HB.out, HO.out⟩
          case measure => simp [intOf]; omega
        · obtain rfl : m = l.length := by omega
          have hmI : ¬ (l.length : Int) < (l.length : Int) := by omega
          have H6 := Lib.hid (HW.out.below hb2)
          have xc := box_cells H6.out.out
          have xf := box_frozen H6.out.out
          have fz := fun o => H6.out.bo.frozenAt o
          have hcub := (H6.out.bo.cellAt b (by omega)).trans Hu0.out
          go_wp2_with fail
          go_meet
          case rel =>
            have hst := H6.out.bo.stored b (.slice (some ⟨g, 0, none⟩) l.length c9)
            have hbV : Below w.heap.size w (wq.setCell ⟨gB, b, none⟩ (.slice (some ⟨g, 0, none⟩) l.length c9)) := H6.out.bel.setCell (p := ⟨gB, b, none⟩) (by simp only; omega) _
            have hoV := Hown.out.kept hst.2 (own_apart Hown.out H6.out.bo (by decide))
            exact ⟨easD d b (easK (tc : Int) i0 l l.length), _, _, easier_block _ _ _ Hlb.out (by omega) (fun r hr => by obtain ⟨j, hj, rfl⟩ := List.getElem_of_mem hr; exact (Hd.out.rel b l j _ Hlb.out (List.getElem?_eq_getElem hj)).lo.2), easD_mild hm Hlb.out (easK_len _ _ _ _), hbV, blk_other H6.out.box (by omega) _, blk_other H6.out.out (by omega) _, blocks_of_in hst.1 ((HIn.out.below hbV).set (rels_of_own (l := easK (tc : Int) i0 l l.length) hoV)), rows_of_own (H6.out.wo.kept hst.2 (own_apart H6.out.wo H6.out.bo (by decide))) (H6.out.wr.kept H6.out.bo (by decide) hst.2)⟩
  case rest =>
    obtain ⟨X, u1, z1, hE, hXm, hwb, hgb, hxb, hxd⟩ := hcut
    rename World => wb
    have Gb := Lib.hid hgb
    have Xb := Lib.hid hxb
    have gc := box_cells Gb.out
    have gf := box_frozen Gb.out
    have xc := box_cells Xb.out
    have xf := box_frozen Xb.out
    have HXm := Lib.hid hXm
    have HE := Lib.hid hE
    have HFX := Lib.hid (show ∀ (u z : Value) (w' : World), DayAt w' u z X → Calls Try.prog 22 #[.agg #[.int .i64 X.law.piece, .int .i64 X.law.drive, .int .i64 X.law.spread, .int .i64 X.law.brk, .int .i64 X.law.on, .int .i64 X.law.off, .int .i64 X.law.least, .int .i64 X.law.pieces, u, z]] w' (Gives w' (.int .i64 (faultD X))) from fun u z w' h => FaultR_any X u z w' h HXm.out)
    clear hgb hxb hXm hE HW hkI hkT htI htT
    by_cases hfx : faultD X = 0
    · have hXok : DayOk X := day_ok.1 hfx
      have HXf := Lib.hid (show (faultD X != 0) = false by rw [hfx]; rfl)
      rw [hfx] at HFX
      have hod := set_duty (d := d) x Hs.out
      have hsg : segN X.blocks = segN d.blocks := segN_congr HE.out.lens
      have hxd2 : IsDuty X (setL (segN d.blocks) x) := ⟨hod.rise, by rw [hsg]; exact hod.lt, hod.some⟩
      obtain ⟨S, hS⟩ : ∃ S : List Nat, setL (segN d.blocks) x = S := ⟨_, rfl⟩
      have hlo2 := setL_len (segN d.blocks) x
      rw [hS] at hod hxd2 hlo2
      have heas : legalL d S = true → legalL X S = true ∧ payL X S ≤ payL d S := fun h => easier_legal Hd.out hXok HE.out hod h
      have hbn : bestN X ≤ bestN d := easier_bestN Hd.out hXok HE.out
      obtain ⟨BX, hBX⟩ : ∃ v, bestN X = v := ⟨_, rfl⟩
      obtain ⟨BD, hBD⟩ : ∃ v, bestN d = v := ⟨_, rfl⟩
      rw [hBX, hBD] at hbn
      have HBD := Lib.hid (show ∀ (u z : Value) (w' : World), DayAt w' u z d → Calls Try.prog 23 #[.agg #[.int .i64 d.law.piece, .int .i64 d.law.drive, .int .i64 d.law.spread, .int .i64 d.law.brk, .int .i64 d.law.on, .int .i64 d.law.off, .int .i64 d.law.least, .int .i64 d.law.pieces, u, z]] w' (Gives w' (.int .i64 BD)) from fun u z w' h => hBD ▸ best_any d u z w' h hm Hf.out)
      have HBX := Lib.hid (show ∀ (u z : Value) (w' : World), DayAt w' u z X → Calls Try.prog 23 #[.agg #[.int .i64 X.law.piece, .int .i64 X.law.drive, .int .i64 X.law.spread, .int .i64 X.law.brk, .int .i64 X.law.on, .int .i64 X.law.off, .int .i64 X.law.least, .int .i64 X.law.pieces, u, z]] w' (Gives w' (.int .i64 BX)) from fun u z w' h => hBX ▸ best_any X u z w' h HXm.out HXf.out)
      obtain ⟨LG, hLG⟩ : ∃ b : Bool, legalL d S = b := ⟨_, rfl⟩
      obtain ⟨LX, hLX⟩ : ∃ b : Bool, legalL X S = b := ⟨_, rfl⟩
      obtain ⟨PD, hPD⟩ : ∃ b : Int, payL d S = b := ⟨_, rfl⟩
      obtain ⟨PX, hPX⟩ : ∃ b : Int, payL X S = b := ⟨_, rfl⟩
      rw [hLG, hLX, hPD, hPX] at heas
      have HLD := Lib.hid (show ∀ (u z v : Value) (w' : World), DayAt w' u z d → NumsAt .i64 w' v (natsI S) → Calls Try.prog 20 #[.agg #[.int .i64 d.law.piece, .int .i64 d.law.drive, .int .i64 d.law.spread, .int .i64 d.law.brk, .int .i64 d.law.on, .int .i64 d.law.off, .int .i64 d.law.least, .int .i64 d.law.pieces, u, z], v] w' (Gives w' (.tuple #[.bool LG, .int .i64 0])) from fun u z v w' h k => by
        have := LegalS_any d u z v S w' h hm Hf.out k hod
        rwa [hLG] at this)
      have HLX := Lib.hid (show ∀ (u z v : Value) (w' : World), DayAt w' u z X → NumsAt .i64 w' v (natsI S) → Calls Try.prog 20 #[.agg #[.int .i64 X.law.piece, .int .i64 X.law.drive, .int .i64 X.law.spread, .int .i64 X.law.brk, .int .i64 X.law.on, .int .i64 X.law.off, .int .i64 X.law.least, .int .i64 X.law.pieces, u, z], v] w' (Gives w' (.tuple #[.bool LX, .int .i64 0])) from fun u z v w' h k => by
        have := LegalS_any X u z v S w' h HXm.out HXf.out k hxd2
        rwa [hLX] at this)
      obtain ⟨e0, he0⟩ : ∃ e : Int, (if LG then PD else 0) = e := ⟨_, rfl⟩
      obtain ⟨e1, he1⟩ : ∃ e : Int, (if LG then 0 else 10) = e := ⟨_, rfl⟩
      obtain ⟨e2, he2⟩ : ∃ e : Int, (if LX then PX else 0) = e := ⟨_, rfl⟩
      obtain ⟨e3, he3⟩ : ∃ e : Int, (if LX then 0 else 10) = e := ⟨_, rfl⟩
      have HPD := Lib.hid (show ∀ (u z v : Value) (w' : World), DayAt w' u z d → NumsAt .i64 w' v (natsI S) → Calls Try.prog 26 #[.agg #[.int .i64 d.law.piece, .int .i64 d.law.drive, .int .i64 d.law.spread, .int .i64 d.law.brk, .int .i64 d.law.on, .int .i64 d.law.off, .int .i64 d.law.least, .int .i64 d.law.pieces, u, z], v] w' (Gives w' (.tuple #[.int .i64 e0, .int .i64 e1])) from fun u z v w' h k => by
        have := PayS_any d u z v S w' h hm Hf.out k hod
        rwa [hLG, hPD, he0, he1] at this)
      have HPX := Lib.hid (show ∀ (u z v : Value) (w' : World), DayAt w' u z X → NumsAt .i64 w' v (natsI S) → Calls Try.prog 26 #[.agg #[.int .i64 X.law.piece, .int .i64 X.law.drive, .int .i64 X.law.spread, .int .i64 X.law.brk, .int .i64 X.law.on, .int .i64 X.law.off, .int .i64 X.law.least, .int .i64 X.law.pieces, u, z], v] w' (Gives w' (.tuple #[.int .i64 e2, .int .i64 e3])) from fun u z v w' h k => by
        have := PayS_any X u z v S w' h HXm.out HXf.out k hxd2
        rwa [hLX, hPX, he2, he3] at this)
      have hcond : LG = true → LX = true ∧ (e1 != 0) = false ∧ (e3 != 0) = false ∧ decide (e2 > e0) = false := by
        intro h
        obtain ⟨k1, k2⟩ := heas h
        subst h
        rw [k1] at he2 he3
        simp only [if_true] at he0 he1 he2 he3
        subst he0 he1 he2 he3
        refine ⟨k1, rfl, rfl, ?_⟩
        rw [decide_eq_false_iff_not]
        omega
      have Hcond := Lib.hid hcond
      have HDX := Lib.hid (show ∀ (u z : Value) (w' : World), DayAt w' u z X → Calls Try.prog 15 #[.agg #[.int .i64 X.law.piece, .int .i64 X.law.drive, .int .i64 X.law.spread, .int .i64 X.law.brk, .int .i64 X.law.on, .int .i64 X.law.off, .int .i64 X.law.least, .int .i64 X.law.pieces, u, z]] w' (GivesDay X.law X w') from fun u z w' h => DayC_any X u z w' h HXm.out)
      have HSS := Lib.hid hS
      have HSl := Lib.hid (natsI_len S)
      clear hBX hBD hXok hod hxd2 hS hfx hsg heas hLG hLX hPD hPX he0 he1 he2 he3 hcond
      go_wp2_with fail
      refine (HFX.out _ _ _ hxd).mono ?_
      rintro e w3 ⟨rfl, hb3⟩
      have hw3 := hwb.trans (hb3.mono hwb.size)
      have G3 := Lib.hid (box_step hb3 Gb.out)
      replace gc := box_cells G3.out
      replace gf := box_frozen G3.out
      have X3 := Lib.hid (box_step hb3 Xb.out)
      replace xc := box_cells X3.out
      replace xf := box_frozen X3.out
      replace hxd := hxd.below hb3
      go_wp2_with fail
      refine (Set_any d _ _ x _ (Hda.out.below hw3) hm (by omega) hx).mono ?_
      rintro e w4 ⟨A6, c6, rfl, ho6, hb4⟩
      have hw4 := hw3.trans (hb4.mono hw3.size)
      have G4 := Lib.hid (box_step hb4 G3.out)
      replace gc := box_cells G4.out
      replace gf := box_frozen G4.out
      have X4 := Lib.hid (box_step hb4 X3.out)
      replace xc := box_cells X4.out
      replace xf := box_frozen X4.out
      replace hxd := hxd.below hb4
      rw [HSS.out, HSl.out] at ho6 ⊢
      have hov := nums_of_own (K := .i64) ho6
      clear ho6
      go_wp2_with fail
      refine (DayC_any d _ _ _ (Hda.out.below hw4) hm).mono ?_
      rintro e w5 ⟨B15, B25, e15, e25, rfl, hd5, hb5⟩
      have hw5 := hw4.trans (hb5.mono hw4.size)
      have G5 := Lib.hid (box_step hb5 G4.out)
      replace gc := box_cells G5.out
      replace gf := box_frozen G5.out
      have X5 := Lib.hid (box_step hb5 X4.out)
      replace xc := box_cells X5.out
      replace xf := box_frozen X5.out
      replace hxd := hxd.below hb5
      replace hov := hov.below hb5
      go_wp2_with fail
      refine (copy_any _ (natsI S) _ hov (by rw [HSl.out]; omega)).mono ?_
      rintro e w6 ⟨A9, c9, rfl, ho7, hb6⟩
      have hw6 := hw5.trans (hb6.mono hw5.size)
      have G6 := Lib.hid (box_step hb6 G5.out)
      replace gc := box_cells G6.out
      replace gf := box_frozen G6.out
      have X6 := Lib.hid (box_step hb6 X5.out)
      replace xc := box_cells X6.out
      replace xf := box_frozen X6.out
      replace hxd := hxd.below hb6
      replace hov := hov.below hb6
      rw [HSl.out] at ho7 ⊢
      have hn7 := nums_of_own (K := .i64) ho7
      have hd5b := hd5.below hb6
      clear ho7
      go_wp2_with fail
      refine (HLD.out _ _ _ _ hd5b hn7).mono ?_
      rintro e w7 ⟨rfl, hb7⟩
      have hw7 := hw6.trans (hb7.mono hw6.size)
      have G7 := Lib.hid (box_step hb7 G6.out)
      replace gc := box_cells G7.out
      replace gf := box_frozen G7.out
      have X7 := Lib.hid (box_step hb7 X6.out)
      replace xc := box_cells X7.out
      replace xf := box_frozen X7.out
      replace hxd := hxd.below hb7
      replace hov := hov.below hb7
      clear hd5 hd5b hn7
      go_wp2_with fail
      refine (HDX.out _ _ _ hxd).mono ?_
      rintro e w8 ⟨B18, B28, e18, e28, rfl, hd8, hb8⟩
      have hw8 := hw7.trans (hb8.mono hw7.size)
      have G8 := Lib.hid (box_step hb8 G7.out)
      replace gc := box_cells G8.out
      replace gf := box_frozen G8.out
      have X8 := Lib.hid (box_step hb8 X7.out)
      replace xc := box_cells X8.out
      replace xf := box_frozen X8.out
      replace hxd := hxd.below hb8
      replace hov := hov.below hb8
      go_wp2_with fail
      refine (copy_any _ (natsI S) _ hov (by rw [HSl.out]; omega)).mono ?_
      rintro e w9 ⟨A9, c9, rfl, ho7, hb9⟩
      have hw9 := hw8.trans (hb9.mono hw8.size)
      have G9 := Lib.hid (box_step hb9 G8.out)
      replace gc := box_cells G9.out
      replace gf := box_frozen G9.out
      have X9 := Lib.hid (box_step hb9 X8.out)
      replace xc := box_cells X9.out
      replace xf := box_frozen X9.out
      replace hxd := hxd.below hb9
      replace hov := hov.below hb9
      rw [HSl.out] at ho7 ⊢
      have hn7 := nums_of_own (K := .i64) ho7
      have hd8b := hd8.below hb9
      clear ho7
      go_wp2_with fail
      refine (HLX.out _ _ _ _ hd8b hn7).mono ?_
      rintro e w10 ⟨rfl, hb10⟩
      have hw10 := hw9.trans (hb10.mono hw9.size)
      have G10 := Lib.hid (box_step hb10 G9.out)
      replace gc := box_cells G10.out
      replace gf := box_frozen G10.out
      have X10 := Lib.hid (box_step hb10 X9.out)
      replace xc := box_cells X10.out
      replace xf := box_frozen X10.out
      replace hxd := hxd.below hb10
      replace hov := hov.below hb10
      clear hd8 hd8b hn7
      go_wp2_with fail
      refine (DayC_any d _ _ _ (Hda.out.below hw10) hm).mono ?_
      rintro e w11 ⟨B111, B211, e111, e211, rfl, hd11, hb11⟩
      have hw11 := hw10.trans (hb11.mono hw10.size)
      have G11 := Lib.hid (box_step hb11 G10.out)
      replace gc := box_cells G11.out
      replace gf := box_frozen G11.out
      have X11 := Lib.hid (box_step hb11 X10.out)
      replace xc := box_cells X11.out
      replace xf := box_frozen X11.out
      replace hxd := hxd.below hb11
      replace hov := hov.below hb11
      go_wp2_with fail
      refine (copy_any _ (natsI S) _ hov (by rw [HSl.out]; omega)).mono ?_
      rintro e w12 ⟨A9, c9, rfl, ho7, hb12⟩
      have hw12 := hw11.trans (hb12.mono hw11.size)
      have G12 := Lib.hid (box_step hb12 G11.out)
      replace gc := box_cells G12.out
      replace gf := box_frozen G12.out
      have X12 := Lib.hid (box_step hb12 X11.out)
      replace xc := box_cells X12.out
      replace xf := box_frozen X12.out
      replace hxd := hxd.below hb12
      replace hov := hov.below hb12
      rw [HSl.out] at ho7 ⊢
      have hn7 := nums_of_own (K := .i64) ho7
      have hd11b := hd11.below hb12
      clear ho7
      go_wp2_with fail
      refine (HPD.out _ _ _ _ hd11b hn7).mono ?_
      rintro e w13 ⟨rfl, hb13⟩
      have hw13 := hw12.trans (hb13.mono hw12.size)
      have G13 := Lib.hid (box_step hb13 G12.out)
      replace gc := box_cells G13.out
      replace gf := box_frozen G13.out
      have X13 := Lib.hid (box_step hb13 X12.out)
      replace xc := box_cells X13.out
      replace xf := box_frozen X13.out
      replace hxd := hxd.below hb13
      replace hov := hov.below hb13
      clear hd11 hd11b hn7
      go_wp2_with fail
      refine (HDX.out _ _ _ hxd).mono ?_
      rintro e w14 ⟨B114, B214, e114, e214, rfl, hd14, hb14⟩
      have hw14 := hw13.trans (hb14.mono hw13.size)
      have G14 := Lib.hid (box_step hb14 G13.out)
      replace gc := box_cells G14.out
      replace gf := box_frozen G14.out
      have X14 := Lib.hid (box_step hb14 X13.out)
      replace xc := box_cells X14.out
      replace xf := box_frozen X14.out
      replace hxd := hxd.below hb14
      replace hov := hov.below hb14
      go_wp2_with fail
      refine (copy_any _ (natsI S) _ hov (by rw [HSl.out]; omega)).mono ?_
      rintro e w15 ⟨A9, c9, rfl, ho7, hb15⟩
      have hw15 := hw14.trans (hb15.mono hw14.size)
      have G15 := Lib.hid (box_step hb15 G14.out)
      replace gc := box_cells G15.out
      replace gf := box_frozen G15.out
      have X15 := Lib.hid (box_step hb15 X14.out)
      replace xc := box_cells X15.out
      replace xf := box_frozen X15.out
      replace hxd := hxd.below hb15
      replace hov := hov.below hb15
      rw [HSl.out] at ho7 ⊢
      have hn7 := nums_of_own (K := .i64) ho7
      have hd14b := hd14.below hb15
      clear ho7
      go_wp2_with fail
      refine (HPX.out _ _ _ _ hd14b hn7).mono ?_
      rintro e w16 ⟨rfl, hb16⟩
      have hw16 := hw15.trans (hb16.mono hw15.size)
      have G16 := Lib.hid (box_step hb16 G15.out)
      replace gc := box_cells G16.out
      replace gf := box_frozen G16.out
      have X16 := Lib.hid (box_step hb16 X15.out)
      replace xc := box_cells X16.out
      replace xf := box_frozen X16.out
      replace hxd := hxd.below hb16
      replace hov := hov.below hb16
      clear hd14 hd14b hn7
      have hdb : decide (BX ≤ BD) = true := decide_eq_true hbn
      cases LG with
      | true =>
        obtain ⟨rfl, k1, k2, k3⟩ := Hcond.out rfl
        go_wp2_with fail
        refine wp_region_noPanic ?_
        refine wp_region_ph [([0, 2], [1, 3, 4, 5, 6, 7, 8])] (fun _ => true) (fun w' => Below w16.heap.size w16 w') (by kernel_rfl) (by kernel_rfl) (fun _ _ _ _ _ h => h) ?_
        have hb17 : Below w16.heap.size w16 w16.drew := (Below.refl _ _).drew
        have HS17 := Lib.hid hb17
        obtain ⟨w17, hwe17⟩ : ∃ W, W = w16.drew := ⟨_, rfl⟩
        rw [← hwe17] at hb17 HS17 ⊢
        clear hwe17
        have hw17 := hw16.trans (hb17.mono hw16.size)
        have G17 := Lib.hid (box_step hb17 G16.out)
        replace gc := box_cells G17.out
        replace gf := box_frozen G17.out
        have X17 := Lib.hid (box_step hb17 X16.out)
        replace xc := box_cells X17.out
        replace xf := box_frozen X17.out
        replace hxd := hxd.below hb17
        refine wpPh_cons HS17.out (fun hne => ?_)
        have n0 := fun x : Meets (fun w' => Below w16.heap.size w16 w') => cell_below x.property (box_cells G16.out 0)
        have n1 := fun x : Meets (fun w' => Below w16.heap.size w16 w') => cell_below x.property (box_cells G16.out 1)
        have n2 := fun x : Meets (fun w' => Below w16.heap.size w16 w') => cell_below x.property (box_cells G16.out 2)
        have n3 := fun x : Meets (fun w' => Below w16.heap.size w16 w') => cell_below x.property (box_cells G16.out 3)
        have n4 := fun x : Meets (fun w' => Below w16.heap.size w16 w') => cell_below x.property (box_cells G16.out 4)
        have n5 := fun x : Meets (fun w' => Below w16.heap.size w16 w') => cell_below x.property (box_cells G16.out 5)
        have n6 := fun x : Meets (fun w' => Below w16.heap.size w16 w') => cell_below x.property (box_cells G16.out 6)
        have n7 := fun x : Meets (fun w' => Below w16.heap.size w16 w') => cell_below x.property (box_cells G16.out 7)
        have n8 := fun x : Meets (fun w' => Below w16.heap.size w16 w') => cell_below x.property (box_cells G16.out 8)
        have n9 := fun x : Meets (fun w' => Below w16.heap.size w16 w') => cell_below x.property (box_cells G16.out 9)
        have n10 := fun x : Meets (fun w' => Below w16.heap.size w16 w') => cell_below x.property (box_cells X16.out 0)
        have n11 := fun x : Meets (fun w' => Below w16.heap.size w16 w') => cell_below x.property (box_cells X16.out 1)
        have n12 := fun x : Meets (fun w' => Below w16.heap.size w16 w') => cell_below x.property (box_cells X16.out 2)
        have n13 := fun x : Meets (fun w' => Below w16.heap.size w16 w') => cell_below x.property (box_cells X16.out 3)
        have n14 := fun x : Meets (fun w' => Below w16.heap.size w16 w') => cell_below x.property (box_cells X16.out 4)
        have n15 := fun x : Meets (fun w' => Below w16.heap.size w16 w') => cell_below x.property (box_cells X16.out 5)
        have n16 := fun x : Meets (fun w' => Below w16.heap.size w16 w') => cell_below x.property (box_cells X16.out 6)
        have n17 := fun x : Meets (fun w' => Below w16.heap.size w16 w') => cell_below x.property (box_cells X16.out 7)
        have n18 := fun x : Meets (fun w' => Below w16.heap.size w16 w') => cell_below x.property (box_cells X16.out 8)
        have n19 := fun x : Meets (fun w' => Below w16.heap.size w16 w') => cell_below x.property (box_cells X16.out 9)
        simp only [pick, pickN, List.filterMap_cons, List.filterMap_nil, List.getElem?_cons_zero, List.getElem?_cons_succ, Option.map_some]
        repeat (change wpQuiet _ _ _ _ (_ :: _) _; go_big_quiet_step (fail))
        refine wpQuiet_nil ?_
        clear n0 n1 n2 n3 n4 n5 n6 n7 n8 n9 n10 n11 n12 n13 n14 n15 n16 n17 n18 n19 hne
        refine wpSeqK_step (fun K hK => ?_)
        go_simp
        refine (HBX.out _ _ _ hxd).mono ?_
        rintro e w18 ⟨rfl, hb18⟩
        have HS18 := Lib.hid (HS17.out.trans (hb18.mono HS17.out.size))
        have hw18 := hw17.trans (hb18.mono hw17.size)
        have G18 := Lib.hid (box_step hb18 G17.out)
        replace gc := box_cells G18.out
        replace gf := box_frozen G18.out
        have X18 := Lib.hid (box_step hb18 X17.out)
        replace xc := box_cells X18.out
        replace xf := box_frozen X18.out
        replace hxd := hxd.below hb18
        refine hK.out _ _ (fun _ => HS18.out) ?_
        clear hK K
        refine wpSeqK_step (fun K hK => ?_)
        go_simp
        refine (HBD.out _ _ _ (Hda.out.below hw18)).mono ?_
        rintro e w19 ⟨rfl, hb19⟩
        have HS19 := Lib.hid (HS18.out.trans (hb19.mono HS18.out.size))
        have hw19 := hw18.trans (hb19.mono hw18.size)
        have G19 := Lib.hid (box_step hb19 G18.out)
        replace gc := box_cells G19.out
        replace gf := box_frozen G19.out
        have X19 := Lib.hid (box_step hb19 X18.out)
        replace xc := box_cells X19.out
        replace xf := box_frozen X19.out
        replace hxd := hxd.below hb19
        refine hK.out _ _ (fun _ => HS19.out) ?_
        clear hK K
        refine wpSeqK_step (fun K hK => ?_)
        go_simp
        refine hK.out _ _ (fun _ => HS19.out) ?_
        clear hK K
        refine wpSeqK_step (fun K hK => ?_)
        go_simp
        refine hK.out _ _ (fun _ => HS19.out) ?_
        clear hK K
        refine wpSeqK_step (fun K hK => ?_)
        go_simp
        refine (wakes_any _).mono ?_
        rintro e w20 ⟨rfl, hb20⟩
        have HS20 := Lib.hid (HS19.out.trans (hb20.mono HS19.out.size))
        have hw20 := hw19.trans (hb20.mono hw19.size)
        have G20 := Lib.hid (box_step hb20 G19.out)
        replace gc := box_cells G20.out
        replace gf := box_frozen G20.out
        have X20 := Lib.hid (box_step hb20 X19.out)
        replace xc := box_cells X20.out
        replace xf := box_frozen X20.out
        replace hxd := hxd.below hb20
        refine hK.out _ _ (fun _ => HS20.out) ?_
        clear hK K
        refine wpSeqK_step (fun K hK => ?_)
        go_simp
        refine hK.out _ _ (fun _ => HS20.out) ?_
        clear hK K
        refine wpSeqK_step (fun K hK => ?_)
        go_simp
        refine hK.out _ _ (fun _ => HS20.out) ?_
        clear hK K
        refine wpSeqK_nil ?_
        refine wpPh_nil ?_
        refine NoPanic.normal ?_
        go_wp2
        go_ret
        exact ⟨rfl, hw20⟩
      | false =>
        clear Hcond
        go_wp2_with fail
        refine wp_region_noPanic ?_
        refine wp_region_ph [([0, 2], [1, 3, 4, 5, 6, 7, 8])] (fun _ => true) (fun w' => Below w16.heap.size w16 w') (by kernel_rfl) (by kernel_rfl) (fun _ _ _ _ _ h => h) ?_
        have hb17 : Below w16.heap.size w16 w16.drew := (Below.refl _ _).drew
        have HS17 := Lib.hid hb17
        obtain ⟨w17, hwe17⟩ : ∃ W, W = w16.drew := ⟨_, rfl⟩
        rw [← hwe17] at hb17 HS17 ⊢
        clear hwe17
        have hw17 := hw16.trans (hb17.mono hw16.size)
        have G17 := Lib.hid (box_step hb17 G16.out)
        replace gc := box_cells G17.out
        replace gf := box_frozen G17.out
        have X17 := Lib.hid (box_step hb17 X16.out)
        replace xc := box_cells X17.out
        replace xf := box_frozen X17.out
        replace hxd := hxd.below hb17
        refine wpPh_cons HS17.out (fun hne => ?_)
        have n0 := fun x : Meets (fun w' => Below w16.heap.size w16 w') => cell_below x.property (box_cells G16.out 0)
        have n1 := fun x : Meets (fun w' => Below w16.heap.size w16 w') => cell_below x.property (box_cells G16.out 1)
        have n2 := fun x : Meets (fun w' => Below w16.heap.size w16 w') => cell_below x.property (box_cells G16.out 2)
        have n3 := fun x : Meets (fun w' => Below w16.heap.size w16 w') => cell_below x.property (box_cells G16.out 3)
        have n4 := fun x : Meets (fun w' => Below w16.heap.size w16 w') => cell_below x.property (box_cells G16.out 4)
        have n5 := fun x : Meets (fun w' => Below w16.heap.size w16 w') => cell_below x.property (box_cells G16.out 5)
        have n6 := fun x : Meets (fun w' => Below w16.heap.size w16 w') => cell_below x.property (box_cells G16.out 6)
        have n7 := fun x : Meets (fun w' => Below w16.heap.size w16 w') => cell_below x.property (box_cells G16.out 7)
        have n8 := fun x : Meets (fun w' => Below w16.heap.size w16 w') => cell_below x.property (box_cells G16.out 8)
        have n9 := fun x : Meets (fun w' => Below w16.heap.size w16 w') => cell_below x.property (box_cells G16.out 9)
        have n10 := fun x : Meets (fun w' => Below w16.heap.size w16 w') => cell_below x.property (box_cells X16.out 0)
        have n11 := fun x : Meets (fun w' => Below w16.heap.size w16 w') => cell_below x.property (box_cells X16.out 1)
        have n12 := fun x : Meets (fun w' => Below w16.heap.size w16 w') => cell_below x.property (box_cells X16.out 2)
        have n13 := fun x : Meets (fun w' => Below w16.heap.size w16 w') => cell_below x.property (box_cells X16.out 3)
        have n14 := fun x : Meets (fun w' => Below w16.heap.size w16 w') => cell_below x.property (box_cells X16.out 4)
        have n15 := fun x : Meets (fun w' => Below w16.heap.size w16 w') => cell_below x.property (box_cells X16.out 5)
        have n16 := fun x : Meets (fun w' => Below w16.heap.size w16 w') => cell_below x.property (box_cells X16.out 6)
        have n17 := fun x : Meets (fun w' => Below w16.heap.size w16 w') => cell_below x.property (box_cells X16.out 7)
        have n18 := fun x : Meets (fun w' => Below w16.heap.size w16 w') => cell_below x.property (box_cells X16.out 8)
        have n19 := fun x : Meets (fun w' => Below w16.heap.size w16 w') => cell_below x.property (box_cells X16.out 9)
        simp only [pick, pickN, List.filterMap_cons, List.filterMap_nil, List.getElem?_cons_zero, List.getElem?_cons_succ, Option.map_some]
        repeat (change wpQuiet _ _ _ _ (_ :: _) _; go_big_quiet_step (fail))
        refine wpQuiet_nil ?_
        clear n0 n1 n2 n3 n4 n5 n6 n7 n8 n9 n10 n11 n12 n13 n14 n15 n16 n17 n18 n19 hne
        refine wpSeqK_step (fun K hK => ?_)
        go_simp
        refine (HBX.out _ _ _ hxd).mono ?_
        rintro e w18 ⟨rfl, hb18⟩
        have HS18 := Lib.hid (HS17.out.trans (hb18.mono HS17.out.size))
        have hw18 := hw17.trans (hb18.mono hw17.size)
        have G18 := Lib.hid (box_step hb18 G17.out)
        replace gc := box_cells G18.out
        replace gf := box_frozen G18.out
        have X18 := Lib.hid (box_step hb18 X17.out)
        replace xc := box_cells X18.out
        replace xf := box_frozen X18.out
        replace hxd := hxd.below hb18
        refine hK.out _ _ (fun _ => HS18.out) ?_
        clear hK K
        refine wpSeqK_step (fun K hK => ?_)
        go_simp
        refine (HBD.out _ _ _ (Hda.out.below hw18)).mono ?_
        rintro e w19 ⟨rfl, hb19⟩
        have HS19 := Lib.hid (HS18.out.trans (hb19.mono HS18.out.size))
        have hw19 := hw18.trans (hb19.mono hw18.size)
        have G19 := Lib.hid (box_step hb19 G18.out)
        replace gc := box_cells G19.out
        replace gf := box_frozen G19.out
        have X19 := Lib.hid (box_step hb19 X18.out)
        replace xc := box_cells X19.out
        replace xf := box_frozen X19.out
        replace hxd := hxd.below hb19
        refine hK.out _ _ (fun _ => HS19.out) ?_
        clear hK K
        refine wpSeqK_step (fun K hK => ?_)
        go_simp
        refine hK.out _ _ (fun _ => HS19.out) ?_
        clear hK K
        refine wpSeqK_step (fun K hK => ?_)
        go_simp
        refine hK.out _ _ (fun _ => HS19.out) ?_
        clear hK K
        refine wpSeqK_step (fun K hK => ?_)
        go_simp
        refine (wakes_any _).mono ?_
        rintro e w20 ⟨rfl, hb20⟩
        have HS20 := Lib.hid (HS19.out.trans (hb20.mono HS19.out.size))
        have hw20 := hw19.trans (hb20.mono hw19.size)
        have G20 := Lib.hid (box_step hb20 G19.out)
        replace gc := box_cells G20.out
        replace gf := box_frozen G20.out
        have X20 := Lib.hid (box_step hb20 X19.out)
        replace xc := box_cells X20.out
        replace xf := box_frozen X20.out
        replace hxd := hxd.below hb20
        refine hK.out _ _ (fun _ => HS20.out) ?_
        clear hK K
        refine wpSeqK_step (fun K hK => ?_)
        go_simp
        refine hK.out _ _ (fun _ => HS20.out) ?_
        clear hK K
        refine wpSeqK_step (fun K hK => ?_)
        go_simp
        refine hK.out _ _ (fun _ => HS20.out) ?_
        clear hK K
        refine wpSeqK_nil ?_
        refine wpPh_nil ?_
        refine NoPanic.normal ?_
        go_wp2
        go_ret
        exact ⟨rfl, hw20⟩
    · have hfn : (faultD X != 0) = true := by simpa using hfx
      generalize faultD X = F at *
      clear hfx
      go_wp2_with fail
      refine (HFX.out _ _ _ hxd).mono ?_
      rintro e w3 ⟨rfl, hb3⟩
      have hw3 := hwb.trans (hb3.mono hwb.size)
      have G3 := Lib.hid (box_step hb3 Gb.out)
      replace gc := box_cells G3.out
      replace gf := box_frozen G3.out
      have X3 := Lib.hid (box_step hb3 Xb.out)
      replace xc := box_cells X3.out
      replace xf := box_frozen X3.out
      replace hxd := hxd.below hb3
      go_wp2_with fail
      refine (wakes_any _).mono ?_
      rintro e w4 ⟨rfl, hb4⟩
      have hw4 := hw3.trans (hb4.mono hw3.size)
      have G4 := Lib.hid (box_step hb4 G3.out)
      replace gc := box_cells G4.out
      replace gf := box_frozen G4.out
      have X4 := Lib.hid (box_step hb4 X3.out)
      replace xc := box_cells X4.out
      replace xf := box_frozen X4.out
      replace hxd := hxd.below hb4
      go_wp2
      go_ret
      exact ⟨rfl, hw4⟩
theorem Easier_law (d : DDay) (u z : Value) (p q y x : Nat) (w : World) (hda : DayAt w u z d) (hp : p < 256) (hq : q < 256) (hy : y < 65536) (hx : x < 65536) :
    Calls Try.prog 7 #[.agg #[.int .i64 d.law.piece, .int .i64 d.law.drive, .int .i64 d.law.spread, .int .i64 d.law.brk, .int .i64 d.law.on, .int .i64 d.law.off, .int .i64 d.law.least, .int .i64 d.law.pieces, u, z], .int .u8 (p : Int), .int .u8 (q : Int), .int .u16 (y : Int), .int .u16 (x : Int)] w (Gives w (.bool true)) := by
  cases hl : lightB d with
  | false => exact Easier_dark d u z p q y x w hda hp hq hy hx hl
  | true =>
    by_cases hs : segN d.blocks = 0
    · exact Easier_none d u z p q y x w hda hp hq hy hx hl hs
    · exact Easier_main d u z p q y x w hda hp hq hy hx hl (by omega)
end Go.Proofs.Ytllobkhdeahgpaa
