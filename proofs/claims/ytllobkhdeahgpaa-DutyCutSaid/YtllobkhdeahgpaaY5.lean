import Derived.Test.YtllobkhdeahgpaaY3
set_option linter.unusedVariables false
set_option linter.unusedSimpArgs false
namespace Go.Proofs.Ytllobkhdeahgpaa
open Go Go.Proofs Go.RowKit

/-! ### DutyCut -/
theorem cutL_snoc (s : Nat) (l : List Nat) (a : Nat) : cutL s (l ++ [a]) = cutL s l ++ if a < s then [a] else if a = s then [s, s + 1] else [a + 1] := by
  unfold cutL
  rw [List.flatMap_append]
  simp only [List.flatMap_cons, List.flatMap_nil, List.append_nil]
theorem cutL_len (s : Nat) : ∀ l : List Nat, (cutL s l).length ≤ 2 * l.length
  | [] => by simp [cutL]
  | a :: t => by
    have h := cutL_len s t
    unfold cutL at h ⊢
    rw [List.flatMap_cons, List.length_append, List.length_cons]
    have : (if a < s then [a] else if a = s then [s, s + 1] else [a + 1]).length ≤ 2 := by
      split
      · simp
      · split <;> simp
    omega
theorem cutL_take {s k a : Nat} {l : List Nat} (h : l[k]? = some a) : cutL s (l.take (k + 1)) = cutL s (l.take k) ++ if a < s then [a] else if a = s then [s, s + 1] else [a + 1] := by
  rw [List.take_add_one, h]
  exact cutL_snoc s _ a
theorem Src.grownS {w w' : World} {g b m size : Nat} {news : List Value} (h : Src w (some ⟨g, 0, none⟩) m size news) (hg : w.grownBy w' (some b)) (hne : g ≠ b) : Src w' (some ⟨g, 0, none⟩) m size news :=
  ⟨h.1, fun h0 => by
    obtain ⟨ad, e, hc⟩ := h.2 h0
    cases e
    refine ⟨_, rfl, fun j u hu => hg.cell (hc j u hu) ?_⟩
    rw [Addr.add_lit]
    intro e
    exact hne (by injection e)⟩
/-- Some reliefs of a slice, from one on. -/
theorem rels_sub {w : World} {b o n c : Nat} {l : List Rel} (h : RelsAt w (.slice (some ⟨b, o, none⟩) n c) l) (t m : Nat) (hm : t + m ≤ n) : Src w (some ⟨b, o + t * 3, none⟩) m 3 (relCells ((l.drop t).take m)) := by
  have hn : l.length = n := by
    obtain ⟨A', c', e, _⟩ := h
    cases e
    rfl
  have hs := rels_src h
  refine ⟨by rw [relCells_len]; simp; omega, fun hp => ?_⟩
  obtain ⟨ad, e, hc⟩ := hs.2 (by omega)
  cases e
  refine ⟨_, rfl, fun j u hu => ?_⟩
  have hj := (List.getElem?_eq_some_iff.1 hu).1
  rw [relCells_len] at hj
  have hl : ((l.drop t).take m).length = m := by simp; omega
  rw [hl] at hj
  have e1 : j = j / 3 * 3 + j % 3 := by omega
  have hk : j / 3 < m := by omega
  have hr : ((l.drop t).take m)[j / 3]? = l[t + j / 3]? := by
    rw [List.getElem?_take, if_pos hk, List.getElem?_drop]
  have hlt : t + j / 3 < l.length := by omega
  have hg := relCells_get (l := (l.drop t).take m) (m := j / 3) (j := j % 3) (r := l[t + j / 3]) (by rw [hr]; exact List.getElem?_eq_getElem hlt) (by omega)
  rw [← e1, hu] at hg
  have hg2 := relCells_get (l := l) (m := t + j / 3) (j := j % 3) (List.getElem?_eq_getElem hlt) (by omega)
  rw [← hg] at hg2
  have := hc _ _ hg2
  rw [Addr.add_lit] at this ⊢
  rw [show o + t * 3 + j = o + ((t + j / 3) * 3 + j % 3) by omega]
  exact this
set_option maxRecDepth 100000 in
set_option maxHeartbeats 800000 in
theorem Cut_dark (d : DDay) (u z : Value) (p q lo hi y : Nat) (w : World) (hda : DayAt w u z d) (hp : p < 256) (hq : q < 256) (hlo : lo < 65536) (hhi : hi < 65536) (hy : y < 65536) (hl : readyB d = false) :
    Calls Try.prog 4 #[.agg #[.int .i64 d.law.piece, .int .i64 d.law.drive, .int .i64 d.law.spread, .int .i64 d.law.brk, .int .i64 d.law.on, .int .i64 d.law.off, .int .i64 d.law.least, .int .i64 d.law.pieces, u, z], .int .u8 (p : Int), .int .u8 (q : Int), .int .u16 (lo : Int), .int .u16 (hi : Int), .int .u16 (y : Int)] w (Gives w (.bool true)) := by
  obtain ⟨A1, c1, rfl, _, _⟩ := hda.blocks.form
  obtain ⟨A2, c2, rfl, _, _⟩ := hda.walk.form
  have hw0 : Below w.heap.size w (w.alloc (.cells #[.int .i64 d.law.piece, .int .i64 d.law.drive, .int .i64 d.law.spread, .int .i64 d.law.brk, .int .i64 d.law.on, .int .i64 d.law.off, .int .i64 d.law.least, .int .i64 d.law.pieces, .slice A1 d.blocks.length c1, .slice A2 d.walk.length c2] 27)) := (Below.refl _ _).alloc (Nat.le_refl _) _
  have G0 := Lib.hid (heap_alloc_new w (.cells #[.int .i64 d.law.piece, .int .i64 d.law.drive, .int .i64 d.law.spread, .int .i64 d.law.brk, .int .i64 d.law.on, .int .i64 d.law.off, .int .i64 d.law.least, .int .i64 d.law.pieces, .slice A1 d.blocks.length c1, .slice A2 d.walk.length c2] 27 (0, 0)))
  have Hda := Lib.hid hda
  have Hl := Lib.hid hl
  clear hl
  clear hda
  go_enter Try.func4, Try.ntmps4
  have gc := box_cells G0.out
  have gf := box_frozen G0.out
  go_wp2_with fail
  refine (Gives.to Hl.out (ready_any d _ _ _ (Hda.out.below hw0))).mono ?_
  rintro e w1 ⟨rfl, hb1⟩
  have hw1 := hw0.trans (hb1.mono hw0.size)
  have G1 := Lib.hid (box_step hb1 G0.out)
  replace gc := box_cells G1.out
  replace gf := box_frozen G1.out
  go_wp2_with fail
  refine (wakes_any _).mono ?_
  rintro e w2 ⟨rfl, hb2⟩
  have hw2 := hw1.trans (hb2.mono hw1.size)
  have G2 := Lib.hid (box_step hb2 G1.out)
  replace gc := box_cells G2.out
  replace gf := box_frozen G2.out
  go_wp2
  go_ret
  exact ⟨rfl, hw2⟩
set_option maxRecDepth 100000 in
set_option maxHeartbeats 1600000 in
theorem Cut_none (d : DDay) (u z : Value) (p q lo hi y : Nat) (w : World) (hda : DayAt w u z d) (hp : p < 256) (hq : q < 256) (hlo : lo < 65536) (hhi : hi < 65536) (hy : y < 65536) (hl : readyB d = true) (hs : segN d.blocks = 0) :
    Calls Try.prog 4 #[.agg #[.int .i64 d.law.piece, .int .i64 d.law.drive, .int .i64 d.law.spread, .int .i64 d.law.brk, .int .i64 d.law.on, .int .i64 d.law.off, .int .i64 d.law.least, .int .i64 d.law.pieces, u, z], .int .u8 (p : Int), .int .u8 (q : Int), .int .u16 (lo : Int), .int .u16 (hi : Int), .int .u16 (y : Int)] w (Gives w (.bool true)) := by
  obtain ⟨_, hm, hf, hf0⟩ := ready_ok hl
  have hd := fault_ok hf
  have Hd := Lib.hid hd
  have Hf := Lib.hid hf
  clear hd hf hf0
  have hsI : (((segN d.blocks : Nat) : Int) == 0) = true := by rw [hs]; rfl
  clear hs
  obtain ⟨A1, c1, rfl, _, _⟩ := hda.blocks.form
  obtain ⟨A2, c2, rfl, _, _⟩ := hda.walk.form
  have hw0 : Below w.heap.size w (w.alloc (.cells #[.int .i64 d.law.piece, .int .i64 d.law.drive, .int .i64 d.law.spread, .int .i64 d.law.brk, .int .i64 d.law.on, .int .i64 d.law.off, .int .i64 d.law.least, .int .i64 d.law.pieces, .slice A1 d.blocks.length c1, .slice A2 d.walk.length c2] 27)) := (Below.refl _ _).alloc (Nat.le_refl _) _
  have G0 := Lib.hid (heap_alloc_new w (.cells #[.int .i64 d.law.piece, .int .i64 d.law.drive, .int .i64 d.law.spread, .int .i64 d.law.brk, .int .i64 d.law.on, .int .i64 d.law.off, .int .i64 d.law.least, .int .i64 d.law.pieces, .slice A1 d.blocks.length c1, .slice A2 d.walk.length c2] 27 (0, 0)))
  have Hda := Lib.hid hda
  have Hl := Lib.hid hl
  clear hl
  clear hda
  go_enter Try.func4, Try.ntmps4
  have gc := box_cells G0.out
  have gf := box_frozen G0.out
  go_wp2_with fail
  refine (Gives.to Hl.out (ready_any d _ _ _ (Hda.out.below hw0))).mono ?_
  rintro e w1 ⟨rfl, hb1⟩
  have hw1 := hw0.trans (hb1.mono hw0.size)
  have G1 := Lib.hid (box_step hb1 G0.out)
  replace gc := box_cells G1.out
  replace gf := box_frozen G1.out
  go_wp2_with fail
  refine (Segments_any d _ _ _ (Hda.out.below hw1) hm).mono ?_
  rintro e w2 ⟨rfl, hb2⟩
  have hw2 := hw1.trans (hb2.mono hw1.size)
  have G2 := Lib.hid (box_step hb2 G1.out)
  replace gc := box_cells G2.out
  replace gf := box_frozen G2.out
  go_wp2_with fail
  refine (wakes_any _).mono ?_
  rintro e w3 ⟨rfl, hb3⟩
  have hw3 := hw2.trans (hb3.mono hw2.size)
  have G3 := Lib.hid (box_step hb3 G2.out)
  replace gc := box_cells G3.out
  replace gf := box_frozen G3.out
  go_wp2
  go_ret
  exact ⟨rfl, hw3⟩
set_option maxRecDepth 100000 in
set_option maxHeartbeats 1600000 in
theorem Cut_many (d : DDay) (u z : Value) (p q lo hi y : Nat) (w : World) (hda : DayAt w u z d) (hp : p < 256) (hq : q < 256) (hlo : lo < 65536) (hhi : hi < 65536) (hy : y < 65536) (hl : readyB d = true) (hs : 7 < segN d.blocks) :
    Calls Try.prog 4 #[.agg #[.int .i64 d.law.piece, .int .i64 d.law.drive, .int .i64 d.law.spread, .int .i64 d.law.brk, .int .i64 d.law.on, .int .i64 d.law.off, .int .i64 d.law.least, .int .i64 d.law.pieces, u, z], .int .u8 (p : Int), .int .u8 (q : Int), .int .u16 (lo : Int), .int .u16 (hi : Int), .int .u16 (y : Int)] w (Gives w (.bool true)) := by
  obtain ⟨_, hm, hf, hf0⟩ := ready_ok hl
  have hd := fault_ok hf
  have Hd := Lib.hid hd
  have Hf := Lib.hid hf
  clear hd hf hf0
  have hsI : (((segN d.blocks : Nat) : Int) == 0) = false := by rw [Bool.eq_false_iff]; simp only [ne_eq, beq_iff_eq]; omega
  have hs7 : (7 : Int) < (segN d.blocks : Int) := by omega
  clear hs
  obtain ⟨A1, c1, rfl, _, _⟩ := hda.blocks.form
  obtain ⟨A2, c2, rfl, _, _⟩ := hda.walk.form
  have hw0 : Below w.heap.size w (w.alloc (.cells #[.int .i64 d.law.piece, .int .i64 d.law.drive, .int .i64 d.law.spread, .int .i64 d.law.brk, .int .i64 d.law.on, .int .i64 d.law.off, .int .i64 d.law.least, .int .i64 d.law.pieces, .slice A1 d.blocks.length c1, .slice A2 d.walk.length c2] 27)) := (Below.refl _ _).alloc (Nat.le_refl _) _
  have G0 := Lib.hid (heap_alloc_new w (.cells #[.int .i64 d.law.piece, .int .i64 d.law.drive, .int .i64 d.law.spread, .int .i64 d.law.brk, .int .i64 d.law.on, .int .i64 d.law.off, .int .i64 d.law.least, .int .i64 d.law.pieces, .slice A1 d.blocks.length c1, .slice A2 d.walk.length c2] 27 (0, 0)))
  have Hda := Lib.hid hda
  have Hl := Lib.hid hl
  clear hl
  clear hda
  go_enter Try.func4, Try.ntmps4
  have gc := box_cells G0.out
  have gf := box_frozen G0.out
  go_wp2_with fail
  refine (Gives.to Hl.out (ready_any d _ _ _ (Hda.out.below hw0))).mono ?_
  rintro e w1 ⟨rfl, hb1⟩
  have hw1 := hw0.trans (hb1.mono hw0.size)
  have G1 := Lib.hid (box_step hb1 G0.out)
  replace gc := box_cells G1.out
  replace gf := box_frozen G1.out
  go_wp2_with fail
  refine (Segments_any d _ _ _ (Hda.out.below hw1) hm).mono ?_
  rintro e w2 ⟨rfl, hb2⟩
  have hw2 := hw1.trans (hb2.mono hw1.size)
  have G2 := Lib.hid (box_step hb2 G1.out)
  replace gc := box_cells G2.out
  replace gf := box_frozen G2.out
  go_wp2_with fail
  refine (Segments_any d _ _ _ (Hda.out.below hw2) hm).mono ?_
  rintro e w3 ⟨rfl, hb3⟩
  have hw3 := hw2.trans (hb3.mono hw2.size)
  have G3 := Lib.hid (box_step hb3 G2.out)
  replace gc := box_cells G3.out
  replace gf := box_frozen G3.out
  go_wp2_with fail
  refine (wakes_any _).mono ?_
  rintro e w4 ⟨rfl, hb4⟩
  have hw4 := hw3.trans (hb4.mono hw3.size)
  have G4 := Lib.hid (box_step hb4 G3.out)
  replace gc := box_cells G4.out
  replace gf := box_frozen G4.out
  go_wp2
  go_ret
  exact ⟨rfl, hw4⟩
set_option maxRecDepth 100000 in
set_option maxHeartbeats 6400000 in
theorem Cut_main (d : DDay) (u z : Value) (p q lo hi y : Nat) (w : World) (hda : DayAt w u z d) (hp : p < 256) (hq : q < 256) (hlo : lo < 65536) (hhi : hi < 65536) (hy : y < 65536) (hl : readyB d = true) (hs : 0 < segN d.blocks) (hs8 : segN d.blocks ≤ 7) :
    Calls Try.prog 4 #[.agg #[.int .i64 d.law.piece, .int .i64 d.law.drive, .int .i64 d.law.spread, .int .i64 d.law.brk, .int .i64 d.law.on, .int .i64 d.law.off, .int .i64 d.law.least, .int .i64 d.law.pieces, u, z], .int .u8 (p : Int), .int .u8 (q : Int), .int .u16 (lo : Int), .int .u16 (hi : Int), .int .u16 (y : Int)] w (Gives w (.bool true)) := by
  obtain ⟨_, hm, hf, hf0⟩ := ready_ok hl
  have hd := fault_ok hf
  have Hd := Lib.hid hd
  have Hf := Lib.hid hf
  clear hd hf hf0
  have hsI : (((segN d.blocks : Nat) : Int) == 0) = false := by rw [Bool.eq_false_iff]; simp only [ne_eq, beq_iff_eq]; omega
  have hs7 : ¬ (7 : Int) < (segN d.blocks : Int) := by omega
  obtain ⟨i1, hi1, hy0, hy1, hy2⟩ := info_parts infoBlR
  obtain ⟨i2, hi2, hr0, hr1, hr2⟩ := info_parts infoRelR
  obtain ⟨i0, hi0, hz0, hz1, hz2⟩ := info_parts infoI
  obtain ⟨s, hsE⟩ : ∃ s : Nat, p % segN d.blocks = s := ⟨_, rfl⟩
  have hsl : s < segN d.blocks := by rw [← hsE]; exact Nat.mod_lt _ hs
  have hsEI : (p : Int) % (segN d.blocks : Int) = (s : Int) := by rw [← hsE]; push_cast; rfl
  have hsET : (p : Int).tmod (segN d.blocks : Int) = (s : Int) := by rw [Int.tmod_eq_emod_of_nonneg (by omega)]; exact hsEI
  obtain ⟨b, i, hsg, hbl, hil, hso⟩ := segs_some hsl
  have Hsg := Lib.hid hsg
  have Hso := Lib.hid hso
  have Hs := Lib.hid hs
  have hbp := blocks_pos hs
  obtain ⟨l, hlb⟩ : ∃ l, d.blocks[b]? = some l := ⟨_, List.getElem?_eq_getElem hbl⟩
  rw [hlb, Option.getD_some] at hil
  have Hlb := Lib.hid hlb
  have Hil := Lib.hid hil
  obtain ⟨rf, hrf⟩ : ∃ r, l[i]? = some r := ⟨_, List.getElem?_eq_getElem (by omega)⟩
  obtain ⟨rt, hrt⟩ : ∃ r, l[i + 1]? = some r := ⟨_, List.getElem?_eq_getElem hil⟩
  have ok1 := Hd.out.rel b l i rf hlb hrf
  have ok2 := Hd.out.rel b l (i + 1) rt hlb hrt
  have up := Hd.out.rise b l i rf rt hlb hrf hrt
  have Hrf := Lib.hid hrf
  have Hrt := Lib.hid hrt
  obtain ⟨f1, f2⟩ := ok1.lo
  have f3 := ok1.hi
  obtain ⟨t1, t2⟩ := ok2.lo
  have t3 := ok2.hi
  obtain ⟨u1, u2⟩ := up
  have hwl := Hd.out.places
  clear hsE hsg hso hlb hrf hrt ok1 ok2
  obtain ⟨A1, c1, rfl, _, _⟩ := hda.blocks.form
  obtain ⟨A2, c2, rfl, _, _⟩ := hda.walk.form
  have hw0 : Below w.heap.size w (w.alloc (.cells #[.int .i64 d.law.piece, .int .i64 d.law.drive, .int .i64 d.law.spread, .int .i64 d.law.brk, .int .i64 d.law.on, .int .i64 d.law.off, .int .i64 d.law.least, .int .i64 d.law.pieces, .slice A1 d.blocks.length c1, .slice A2 d.walk.length c2] 27)) := (Below.refl _ _).alloc (Nat.le_refl _) _
  have G0 := Lib.hid (heap_alloc_new w (.cells #[.int .i64 d.law.piece, .int .i64 d.law.drive, .int .i64 d.law.spread, .int .i64 d.law.brk, .int .i64 d.law.on, .int .i64 d.law.off, .int .i64 d.law.least, .int .i64 d.law.pieces, .slice A1 d.blocks.length c1, .slice A2 d.walk.length c2] 27 (0, 0)))
  have Hda := Lib.hid hda
  have Hl := Lib.hid hl
  clear hl
  clear hda
  go_enter Try.func4, Try.ntmps4
  have gc := box_cells G0.out
  have gf := box_frozen G0.out
  go_wp2_with fail
  refine (Gives.to Hl.out (ready_any d _ _ _ (Hda.out.below hw0))).mono ?_
  rintro e w1 ⟨rfl, hb1⟩
  have hw1 := hw0.trans (hb1.mono hw0.size)
  have G1 := Lib.hid (box_step hb1 G0.out)
  replace gc := box_cells G1.out
  replace gf := box_frozen G1.out
  go_wp2_with fail
  refine (Segments_any d _ _ _ (Hda.out.below hw1) hm).mono ?_
  rintro e w2 ⟨rfl, hb2⟩
  have hw2 := hw1.trans (hb2.mono hw1.size)
  have G2 := Lib.hid (box_step hb2 G1.out)
  replace gc := box_cells G2.out
  replace gf := box_frozen G2.out
  go_wp2_with fail
  refine (Segments_any d _ _ _ (Hda.out.below hw2) hm).mono ?_
  rintro e w3 ⟨rfl, hb3⟩
  have hw3 := hw2.trans (hb3.mono hw2.size)
  have G3 := Lib.hid (box_step hb3 G2.out)
  replace gc := box_cells G3.out
  replace gf := box_frozen G3.out
  go_wp2_with fail
  refine (Segments_any d _ _ _ (Hda.out.below hw3) hm).mono ?_
  rintro e w4 ⟨rfl, hb4⟩
  have hw4 := hw3.trans (hb4.mono hw3.size)
  have G4 := Lib.hid (box_step hb4 G3.out)
  replace gc := box_cells G4.out
  replace gf := box_frozen G4.out
  go_wp2_with fail
  refine (Spot_any d _ _ s b i _ (Hda.out.below hw4) hm Hd.out Hsg.out (by omega)).mono ?_
  rintro e w5 ⟨rfl, hb5⟩
  have hw5 := hw4.trans (hb5.mono hw4.size)
  have G5 := Lib.hid (box_step hb5 G4.out)
  replace gc := box_cells G5.out
  replace gf := box_frozen G5.out
  obtain ⟨bb, ob, l', yv, e1, hl', cb, hrl, hbl1⟩ := Hda.out.blocks.at_ hbl
  have e2 := Hlb.out.symm.trans hl'
  injection e2 with e2
  subst e2
  clear hl'
  subst e1
  obtain ⟨b2, o2, r', e3, hr', x0, x1, x2, hbl2⟩ : ∃ b2 o2 r', yv = .slice (some ⟨b2, o2, none⟩) l.length (match yv with | .slice _ _ c => c | _ => 0) ∧ l[i]? = some r' ∧ w.cell? ⟨b2, o2 + i * 3, none⟩ = some (.int .i64 r'.place) ∧ w.cell? ⟨b2, o2 + i * 3 + 1, none⟩ = some (.int .i64 r'.lo) ∧ w.cell? ⟨b2, o2 + i * 3 + 2, none⟩ = some (.int .i64 r'.hi) ∧ b2 < w.heap.size := by
    obtain ⟨A5, c5, rfl, _, _⟩ := hrl.form
    obtain ⟨b2, o2, r', rfl, hr', y0, y1, y2, hb2⟩ := hrl.at_ (k := i) (by have := Hil.out; omega)
    exact ⟨b2, o2, r', rfl, hr', y0, y1, y2, hb2⟩
  obtain ⟨c5, hc5⟩ : ∃ c5, yv = .slice (some ⟨b2, o2, none⟩) l.length c5 := ⟨_, e3⟩
  clear e3
  subst hc5
  have e2 := Hrf.out.symm.trans hr'
  injection e2 with e2
  subst e2
  clear hr' x0
  obtain ⟨b3, o3, r', e3, hr', _, z1, z2, _⟩ := hrl.at_ (k := i + 1) Hil.out
  cases e3
  have e2 := Hrt.out.symm.trans hr'
  injection e2 with e2
  subst e2
  clear hr'
  have HrlW := Lib.hid hrl
  have HcbW := Lib.hid cb
  replace cb := cell_below hw5 cb
  replace x1 := cell_below hw5 x1
  replace x2 := cell_below hw5 x2
  replace z1 := cell_below hw5 z1
  replace z2 := cell_below hw5 z2
  have HS1 := Lib.hid (show Src w (some ⟨b2, o2, none⟩) (i + 1) 3 (relCells (l.take (i + 1))) from by
    have h := rels_sub hrl 0 (i + 1) (by have := Hil.out; omega)
    simpa using h)
  have HS2 := Lib.hid (show Src w (some ⟨b2, o2 + (i + 1) * 3, none⟩) (l.length - (i + 1)) 3 (relCells (l.drop (i + 1))) from by
    have h := rels_sub hrl (i + 1) (l.length - (i + 1)) (by have := Hil.out; omega)
    rw [List.take_of_length_le (by simp)] at h
    exact h)
  have HS3 := Lib.hid (relCells_one (l.take (i + 1)))
  have HS4 := Lib.hid (relCells_one (l.drop (i + 1)))
  obtain ⟨_, hlc, hlm⟩ : True ∧ l.length ≤ c5 ∧ c5 ≤ 9223372036854775807 := by
    obtain ⟨A5, c6, e, h1, h2⟩ := hrl.form
    cases e
    exact ⟨trivial, h1, h2⟩
  clear hrl
  have hiw : IntKind.i64.wrap ((i : Int) + 1) = ((i + 1 : Nat) : Int) := by rw [IntWalk.i64_in _ (by have := hm.block b l Hlb.out; have := Hil.out; omega)]; push_cast; rfl
  have hin1 : (i : Int) < (l.length : Int) := by have := Hil.out; omega
  have hin2 : ((i + 1 : Nat) : Int) < (l.length : Int) := by have := Hil.out; omega
  have hbI : (b : Int) < (d.blocks.length : Int) := by omega
  go_wp2_with fail
  go_cut [16, 17] from 52 to 70 (fun x y wx => ∃ gF gT, x = .pointer (some ⟨gF, 0, none⟩) ∧ y = .pointer (some ⟨gT, 0, none⟩) ∧ Below w5.heap.size w5 wx ∧ w5.heap.size ≤ gF ∧ w5.heap.size ≤ gT ∧ wx.heap[gF]? = some (.cells #[.int .i64 rf.lo, .int .i64 rf.hi] 53 (0, 0)) ∧ wx.heap[gT]? = some (.cells #[.int .i64 rt.lo, .int .i64 rt.hi] 53 (0, 0)))
  case first =>
    have hB0 : Below w5.heap.size w5 w5.drew := (Below.refl _ _).drew
    refine wp_region_noPanic ?_
    refine wp_region_pickA [0, 1, 2, 3, 4, 5, 6, 7, 8, 9, 10, 11, 12, 13, 14, 15, 16, 17, 18] 4 (fun _ => true) (fun w' => Below w5.heap.size w5 w') (by kernel_rfl) (by kernel_rfl) (fun _ _ _ _ _ h => h) hB0 (fun hne => ?_)
    have n0 := fun x : Meets (fun w' => Below w5.heap.size w5 w') => cell_below x.property (box_cells G5.out 8)
    have n1 := fun x : Meets (fun w' => Below w5.heap.size w5 w') => cell_below x.property cb
    have n2 := fun x : Meets (fun w' => Below w5.heap.size w5 w') => cell_below x.property x1
    have n3 := fun x : Meets (fun w' => Below w5.heap.size w5 w') => cell_below x.property x2
    have n4 := fun x : Meets (fun w' => Below w5.heap.size w5 w') => cell_below x.property z1
    have n5 := fun x : Meets (fun w' => Below w5.heap.size w5 w') => cell_below x.property z2
    simp only [pick, pickN, List.filterMap_cons, List.filterMap_nil, List.getElem?_cons_zero, List.getElem?_cons_succ, Option.map_some]
    repeat (change wpQuiet _ _ _ _ (_ :: _) _; go_big_quiet_step (fail))
    refine wpQuiet_nil ?_
    clear n0 n1 n2 n3 n4 n5 hne
    obtain ⟨v0, hv0⟩ : ∃ W, W = w5.drew := ⟨_, rfl⟩
    rw [← hv0] at hB0 ⊢
    clear hv0
    refine wpAnyF_two (i := 19) (j := 20) (by kernel_rfl) rfl rfl (fun K hK => ?_) (fun K hK => ?_)
    · go_simp
      have hB1 := hB0.alloc hB0.size (.cells #[.int .i64 0, .int .i64 0] 53 (0, 0))
      have bz1 := heap_alloc_new v0 (.cells #[.int .i64 0, .int .i64 0] 53 (0, 0))
      have sg1 : v0.heap.size < (v0.alloc (.cells #[.int .i64 0, .int .i64 0] 53 (0, 0))).heap.size := by simp
      have lg1 : w5.heap.size ≤ v0.heap.size := hB0.size
      refine hK.out _ _ (fun _ => hB1) ?_
      clear hK K
      obtain ⟨g1, hg1⟩ : ∃ g, v0.heap.size = g := ⟨_, rfl⟩
      rw [hg1] at bz1 sg1 lg1  ⊢
      clear hg1
      generalize v0.alloc (.cells #[.int .i64 0, .int .i64 0] 53 (0, 0)) = v1 at *
      refine wpAnyF_one (i := 20) (by kernel_rfl) rfl (fun K hK => ?_)
      go_simp
      have hB2 := hB1.alloc hB1.size (.cells #[.int .i64 0, .int .i64 0] 53 (0, 0))
      have bz2 := heap_alloc_new v1 (.cells #[.int .i64 0, .int .i64 0] 53 (0, 0))
      have sg2 : v1.heap.size < (v1.alloc (.cells #[.int .i64 0, .int .i64 0] 53 (0, 0))).heap.size := by simp
      have lg2 : w5.heap.size ≤ v1.heap.size := hB1.size
      have bz1' := (Below.heap_alloc v1 (.cells #[.int .i64 0, .int .i64 0] 53 (0, 0)) _ (Array.getElem?_eq_some_iff.1 bz1).1).trans bz1
      refine hK.out _ _ (fun _ => hB2) ?_
      clear hK K
      have ltg1 : g1 < v1.heap.size := (Array.getElem?_eq_some_iff.1 bz1).1
      obtain ⟨g2, hg2⟩ : ∃ g, v1.heap.size = g := ⟨_, rfl⟩
      rw [hg2] at bz2 sg2 lg2 ltg1 ⊢
      clear hg2
      generalize v1.alloc (.cells #[.int .i64 0, .int .i64 0] 53 (0, 0)) = v2 at *
      have hne : g1 ≠ g2 := by omega
      refine wpAnyF_one (i := 21) (by kernel_rfl) rfl (fun K hK => ?_)
      have q1 := box_cells bz1'
      have q2 := box_frozen bz1'
      go_simp
      have hBs := ((hB2.setCell (p := ⟨g1, 0, none⟩) lg1 (.int .i64 rf.lo)).setCell (p := ⟨g1, 1, none⟩) lg1 (.int .i64 rf.hi))
      have bF1 := blk_set (blk_set bz1' (o := 0) (.int .i64 rf.lo)) (o := 1) (.int .i64 rf.hi)
      have bT1 := blk_other (blk_other bz2 (Ne.symm hne) (o := 0) (.int .i64 rf.lo)) (Ne.symm hne) (o := 1) (.int .i64 rf.hi)
      refine hK.out _ _ (fun _ => hBs) ?_
      clear hK K q1 q2
      simp only [List.setIfInBounds_toArray, List.set_cons_succ, List.set_cons_zero] at bF1
      generalize (v2.setCell ⟨g1, 0, none⟩ (.int .i64 rf.lo)).setCell ⟨g1, 1, none⟩ (.int .i64 rf.hi) = vs at *
      refine wpAnyF_one (i := 22) (by kernel_rfl) rfl (fun K hK => ?_)
      have q1 := box_cells bT1
      have q2 := box_frozen bT1
      go_simp
      have hBt := ((hBs.setCell (p := ⟨g2, 0, none⟩) lg2 (.int .i64 rt.lo)).setCell (p := ⟨g2, 1, none⟩) lg2 (.int .i64 rt.hi))
      have bT2 := blk_set (blk_set bT1 (o := 0) (.int .i64 rt.lo)) (o := 1) (.int .i64 rt.hi)
      have bF2 := blk_other (blk_other bF1 (Ne.symm (Ne.symm hne)) (o := 0) (.int .i64 rt.lo)) (Ne.symm (Ne.symm hne)) (o := 1) (.int .i64 rt.hi)
      refine hK.out _ _ (fun _ => hBt) ?_
      clear hK K q1 q2
      simp only [List.setIfInBounds_toArray, List.set_cons_succ, List.set_cons_zero] at bT2
      refine wpAnyF_done (by kernel_rfl) ?_ _
      refine NoPanic.normal ?_
      go_wp2_with fail
      go_meet
      case rel => exact ⟨g1, g2, rfl, rfl, hBt, lg1, lg2, bF2, bT2⟩
    · go_simp
      have hB1 := hB0.alloc hB0.size (.cells #[.int .i64 0, .int .i64 0] 53 (0, 0))
      have bz1 := heap_alloc_new v0 (.cells #[.int .i64 0, .int .i64 0] 53 (0, 0))
      have sg1 : v0.heap.size < (v0.alloc (.cells #[.int .i64 0, .int .i64 0] 53 (0, 0))).heap.size := by simp
      have lg1 : w5.heap.size ≤ v0.heap.size := hB0.size
      refine hK.out _ _ (fun _ => hB1) ?_
      clear hK K
      obtain ⟨g1, hg1⟩ : ∃ g, v0.heap.size = g := ⟨_, rfl⟩
      rw [hg1] at bz1 sg1 lg1  ⊢
      clear hg1
      generalize v0.alloc (.cells #[.int .i64 0, .int .i64 0] 53 (0, 0)) = v1 at *
      refine wpAnyF_one (i := 19) (by kernel_rfl) rfl (fun K hK => ?_)
      go_simp
      have hB2 := hB1.alloc hB1.size (.cells #[.int .i64 0, .int .i64 0] 53 (0, 0))
      have bz2 := heap_alloc_new v1 (.cells #[.int .i64 0, .int .i64 0] 53 (0, 0))
      have sg2 : v1.heap.size < (v1.alloc (.cells #[.int .i64 0, .int .i64 0] 53 (0, 0))).heap.size := by simp
      have lg2 : w5.heap.size ≤ v1.heap.size := hB1.size
      have bz1' := (Below.heap_alloc v1 (.cells #[.int .i64 0, .int .i64 0] 53 (0, 0)) _ (Array.getElem?_eq_some_iff.1 bz1).1).trans bz1
      refine hK.out _ _ (fun _ => hB2) ?_
      clear hK K
      have ltg1 : g1 < v1.heap.size := (Array.getElem?_eq_some_iff.1 bz1).1
      obtain ⟨g2, hg2⟩ : ∃ g, v1.heap.size = g := ⟨_, rfl⟩
      rw [hg2] at bz2 sg2 lg2 ltg1 ⊢
      clear hg2
      generalize v1.alloc (.cells #[.int .i64 0, .int .i64 0] 53 (0, 0)) = v2 at *
      have hne : g1 ≠ g2 := by omega
      refine wpAnyF_one (i := 21) (by kernel_rfl) rfl (fun K hK => ?_)
      have q1 := box_cells bz2
      have q2 := box_frozen bz2
      go_simp
      have hBs := ((hB2.setCell (p := ⟨g2, 0, none⟩) lg2 (.int .i64 rf.lo)).setCell (p := ⟨g2, 1, none⟩) lg2 (.int .i64 rf.hi))
      have bF1 := blk_set (blk_set bz2 (o := 0) (.int .i64 rf.lo)) (o := 1) (.int .i64 rf.hi)
      have bT1 := blk_other (blk_other bz1' hne (o := 0) (.int .i64 rf.lo)) hne (o := 1) (.int .i64 rf.hi)
      refine hK.out _ _ (fun _ => hBs) ?_
      clear hK K q1 q2
      simp only [List.setIfInBounds_toArray, List.set_cons_succ, List.set_cons_zero] at bF1
      generalize (v2.setCell ⟨g2, 0, none⟩ (.int .i64 rf.lo)).setCell ⟨g2, 1, none⟩ (.int .i64 rf.hi) = vs at *
      refine wpAnyF_one (i := 22) (by kernel_rfl) rfl (fun K hK => ?_)
      have q1 := box_cells bT1
      have q2 := box_frozen bT1
      go_simp
      have hBt := ((hBs.setCell (p := ⟨g1, 0, none⟩) lg1 (.int .i64 rt.lo)).setCell (p := ⟨g1, 1, none⟩) lg1 (.int .i64 rt.hi))
      have bT2 := blk_set (blk_set bT1 (o := 0) (.int .i64 rt.lo)) (o := 1) (.int .i64 rt.hi)
      have bF2 := blk_other (blk_other bF1 (Ne.symm hne) (o := 0) (.int .i64 rt.lo)) (Ne.symm hne) (o := 1) (.int .i64 rt.hi)
      refine hK.out _ _ (fun _ => hBt) ?_
      clear hK K q1 q2
      simp only [List.setIfInBounds_toArray, List.set_cons_succ, List.set_cons_zero] at bT2
      refine wpAnyF_done (by kernel_rfl) ?_ _
      refine NoPanic.normal ?_
      go_wp2_with fail
      go_meet
      case rel => exact ⟨g2, g1, rfl, rfl, hBt, lg2, lg1, bF2, bT2⟩
  case rest =>
    obtain ⟨gF, gT, rfl, rfl, hbc, hgF, hgT, bF, bT⟩ := hcut
    rename World => wc
    have hwc := hw5.trans (hbc.mono hw5.size)
    have Gc := Lib.hid (box_step hbc G5.out)
    have BF := Lib.hid bF
    have BT := Lib.hid bT
    clear bF bT x1 x2 z1 z2 cb gc gf hgF hgT G0 G1 G2 G3 G4 hb1 hb2 hb3 hb4 hb5
    obtain ⟨pl, hpl⟩ : ∃ pl : Nat, q % d.walk.length = pl := ⟨_, rfl⟩
    have hpI : (q : Int).tmod (d.walk.length : Int) = (pl : Int) := by rw [Int.tmod_eq_emod_of_nonneg (by omega), ← hpl]; push_cast; rfl
    have hpl2 : pl < d.walk.length := by rw [← hpl]; exact Nat.mod_lt _ (by omega)
    obtain ⟨D1, hD1⟩ : ∃ D, D = rt.lo - rf.lo := ⟨_, rfl⟩
    obtain ⟨D2, hD2⟩ : ∃ D, D = rt.hi - rf.hi := ⟨_, rfl⟩
    obtain ⟨M1, hM1⟩ : ∃ D, D = D1 + 1 := ⟨_, rfl⟩
    obtain ⟨M2, hM2⟩ : ∃ D, D = D2 + 1 := ⟨_, rfl⟩
    obtain ⟨E1, hE1⟩ : ∃ D : Int, D = (lo : Int) % M1 := ⟨_, rfl⟩
    obtain ⟨E2, hE2⟩ : ∃ D : Int, D = (hi : Int) % M2 := ⟨_, rfl⟩
    obtain ⟨rl, hrl⟩ : ∃ D : Int, D = rf.lo + E1 := ⟨_, rfl⟩
    obtain ⟨rh, hrh⟩ : ∃ D : Int, D = rf.hi + E2 := ⟨_, rfl⟩
    have k1 : 0 ≤ E1 ∧ E1 < M1 := by rw [hE1]; exact ⟨Int.emod_nonneg _ (by omega), Int.emod_lt_of_pos _ (by omega)⟩
    have k2 : 0 ≤ E2 ∧ E2 < M2 := by rw [hE2]; exact ⟨Int.emod_nonneg _ (by omega), Int.emod_lt_of_pos _ (by omega)⟩
    have q1 : IntKind.i64.wrap (rt.lo - rf.lo) = D1 := by rw [hD1]; exact IntWalk.i64_in _ (by omega)
    have q2 : IntKind.i64.wrap (rt.hi - rf.hi) = D2 := by rw [hD2]; exact IntWalk.i64_in _ (by omega)
    have q3 : IntKind.i64.wrap (D1 + 1) = M1 := by rw [hM1]; exact IntWalk.i64_in _ (by omega)
    have q4 : IntKind.i64.wrap (D2 + 1) = M2 := by rw [hM2]; exact IntWalk.i64_in _ (by omega)
    have q5 : (lo : Int).tmod M1 = E1 := by rw [Int.tmod_eq_emod_of_nonneg (by omega), hE1]
    have q6 : (hi : Int).tmod M2 = E2 := by rw [Int.tmod_eq_emod_of_nonneg (by omega), hE2]
    have q7 : IntKind.i64.wrap (rf.lo + E1) = rl := by rw [hrl]; exact IntWalk.i64_in _ (by omega)
    have q8 : IntKind.i64.wrap (rf.hi + E2) = rh := by rw [hrh]; exact IntWalk.i64_in _ (by omega)
    have m1 : ¬ M1 = 0 := by omega
    have m2 : ¬ M2 = 0 := by omega
    have m3 : ¬ (d.walk.length : Int) = 0 := by omega
    clear hpl hD1 hD2 hM1 hM2 hE1 hE2 hrl hrh k1 k2
    go_wp2_with fail
    refine wp_region_noPanic ?_
    refine wp_region_pick [0, 1, 2, 3, 4, 5, 6, 7, 8, 9, 10, 11, 12, 13, 14, 15, 16, 17, 18, 19, 20, 21, 22, 23, 24, 25, 26, 27, 28, 29, 30, 31] [32, 33] (fun _ => true) (fun w' => Below wc.heap.size wc w') (by kernel_rfl) (by kernel_rfl) (fun _ _ _ _ _ h => h) (Below.refl _ _).drew (fun hne => ?_)
    have n0 := fun x : Meets (fun w' => Below wc.heap.size wc w') => cell_below x.property (box_cells Gc.out 9)
    have n1 := fun x : Meets (fun w' => Below wc.heap.size wc w') => cell_below x.property (box_cells BF.out 0)
    have n2 := fun x : Meets (fun w' => Below wc.heap.size wc w') => cell_below x.property (box_cells BF.out 1)
    have n3 := fun x : Meets (fun w' => Below wc.heap.size wc w') => cell_below x.property (box_cells BT.out 0)
    have n4 := fun x : Meets (fun w' => Below wc.heap.size wc w') => cell_below x.property (box_cells BT.out 1)
    simp only [pick, pickN, List.filterMap_cons, List.filterMap_nil, List.getElem?_cons_zero, List.getElem?_cons_succ, Option.map_some]
    repeat (change wpQuiet _ _ _ _ (_ :: _) _; go_big_quiet_step (fail))
    refine wpQuiet_nil ?_
    clear n0 n1 n2 n3 n4 hne q1 q2 q3 q4 q5 q6 q7 q8 m1 m2 m3 hpI BF BT
    have hB0 : Below wc.heap.size wc wc.drew := (Below.refl _ _).drew
    obtain ⟨v0, hv0⟩ : ∃ W, W = wc.drew := ⟨_, rfl⟩
    rw [← hv0] at hB0 ⊢
    clear hv0
    refine wpSeqP_step (fun K hK => ?_)
    go_simp
    have hB1 := hB0.alloc hB0.size (.cells #[.int .i64 0, .int .i64 0, .int .i64 0] 55 (0, 0))
    have bz := heap_alloc_new v0 (.cells #[.int .i64 0, .int .i64 0, .int .i64 0] 55 (0, 0))
    have lg := hB0.size
    refine hK.out _ _ (fun _ => hB1) ?_
    clear hK K
    obtain ⟨gR, hgR⟩ : ∃ g, v0.heap.size = g := ⟨_, rfl⟩
    rw [hgR] at bz lg ⊢
    clear hgR
    generalize v0.alloc (.cells #[.int .i64 0, .int .i64 0, .int .i64 0] 55 (0, 0)) = v1 at *
    refine wpSeqP_step (fun K hK => ?_)
    have y1 := box_cells bz
    have y2 := box_frozen bz
    go_simp
    have hB2 := ((hB1.setCell (p := ⟨gR, 0, none⟩) lg (.int .i64 (pl : Int))).setCell (p := ⟨gR, 1, none⟩) lg (.int .i64 rl)).setCell (p := ⟨gR, 2, none⟩) lg (.int .i64 rh)
    have bR := blk_set (blk_set (blk_set bz (o := 0) (.int .i64 (pl : Int))) (o := 1) (.int .i64 rl)) (o := 2) (.int .i64 rh)
    simp only [List.setIfInBounds_toArray, List.set_cons_succ, List.set_cons_zero] at bR
    refine hK.out _ _ (fun _ => hB2) ?_
    clear hK K y1 y2 bz
    refine wpSeqP_nil ?_
    refine NoPanic.normal ?_
    refine then_name (fun V => Below wc.heap.size wc V ∧ V.heap[gR]? = some (.cells #[.int .i64 (pl : Int), .int .i64 rl, .int .i64 rh] 55 (0, 0))) ⟨hB2, bR⟩ (fun wd hW => ?_)
    obtain ⟨hbd, bR⟩ := hW
    clear hB0 hB1 hB2
    have hwd := hwc.trans (hbd.mono hwc.size)
    have Gd := Lib.hid (box_step hbd Gc.out)
    have BR := Lib.hid bR
    have gc := box_cells Gd.out
    have gf := box_frozen Gd.out
    have ltG := (Array.getElem?_eq_some_iff.1 Gd.out).1
    have ltR := (Array.getElem?_eq_some_iff.1 bR).1
    clear bR Gc
    go_upto_region 8 with (fail)
    refine wp_name (fun V => Below wd.heap.size wd V ∧ V.heap[wd.heap.size]? = some (.cells #[.int .i64 d.law.piece, .int .i64 d.law.drive, .int .i64 d.law.spread, .int .i64 d.law.brk, .int .i64 d.law.on, .int .i64 d.law.off, .int .i64 d.law.least, .int .i64 d.law.pieces, .slice (some ⟨bb, ob, none⟩) d.blocks.length c1, .slice A2 d.walk.length c2] 27 (0, 0))) ⟨(Below.refl _ _).alloc (Nat.le_refl _) _, heap_alloc_new wd _⟩ (fun we hW => ?_)
    obtain ⟨hbe, bX⟩ := hW
    have hwe := hwd.trans (hbe.mono hwd.size)
    have Ge := Lib.hid (box_step hbe Gd.out)
    have Re := Lib.hid (box_step hbe BR.out)
    have Xe := Lib.hid bX
    have hgX : wd.heap.size < we.heap.size := (Array.getElem?_eq_some_iff.1 bX).1
    have hgW : w.heap.size < wd.heap.size := ltG
    have ltR2 := (Array.getElem?_eq_some_iff.1 Re.out).1
    have ltG2 := (Array.getElem?_eq_some_iff.1 Ge.out).1
    have hgwX := hwd.size
    have ltX2 := hgX
    generalize wd.heap.size = gX at *
    replace gc := box_cells Ge.out
    replace gf := box_frozen Ge.out
    have xc := box_cells Xe.out
    have xf := box_frozen Xe.out
    clear bX Gd BR
    obtain ⟨bs, os, us, eA, hbs, hul, hcl, hui⟩ := blocks_src Hda.out.blocks hbp
    cases eA
    have Hui := Lib.hid hui
    have Hul := Lib.hid hul
    have ho : (we.alloc (.cells #[] 56)).ownsRow we.heap.size 56 1 (.slice (some ⟨we.heap.size, 0, none⟩) 0 0) 0 [] := World.ownsRow_lit we #[] 0 (Nat.le_refl _) (by simp [maxLen]) (by simp)
    have hsrc : Src (we.alloc (.cells #[] 56)) (some ⟨bb, ob, none⟩) d.blocks.length 1 us := by
      have h := src_cells hul (fun j u hu => cell_below hwe (hcl j u hu)) 0 (m := d.blocks.length) (by omega)
      rw [List.drop_zero, Nat.add_zero, List.take_of_length_le (by omega)] at h
      exact h.below ((Below.refl _ _).alloc (Nat.le_refl _) _)
    have Ho := Lib.hid ho
    have Hsrc := Lib.hid hsrc
    have Hone := Lib.hid (BlocksIn.one hui)
    have hb0 : Below we.heap.size we (we.alloc (.cells #[] 56)) := (Below.refl _ _).alloc (Nat.le_refl _) _
    have hn6 := Hd.out.blocks
    clear ho hsrc hui hul hcl
    go_wp2_with (at_builtin; go_loud (refine wpList_append_src _ rfl (.tmp 104) (.tmp 106) 24 rfl we.heap.size 56 i1 _ 1 24 Try.underlying24 hi1 hy0 hy1 hy2 rfl (by omega) _ 0 [] rfl Ho.out (some ⟨bb, ob, none⟩) d.blocks.length c1 us rfl Hsrc.out Hone.out (by simp [maxLen]; omega) (by omega) (by simp) ?_; intro v1 w1 hown1 hg1 hat1; rw [Nat.zero_add, List.nil_append] at hown1; have Hb1 := Lib.hid (below_grown hb0 hg1 (by simp) Ho.out (Nat.le_refl _)); obtain ⟨A7, c7, rfl⟩ := own_form hown1; have Hown1 := Lib.hid hown1; have g81 := box_cells (box_step Hb1.out Xe.out) 8; have gf1 := box_frozen (box_step Hb1.out Xe.out) 8; clear hown1 hg1 hat1))
    obtain ⟨gB, rfl, hgB, hgB2⟩ := own_some Hown1.out (by omega)
    refine wp_name (fun V => Below we.heap.size we w1 ∧ Below gX we V ∧ V.heap[w.heap.size]? = we.heap[w.heap.size]? ∧ V.heap[gR]? = we.heap[gR]? ∧ V.heap[gX]? = some (.cells #[.int .i64 d.law.piece, .int .i64 d.law.drive, .int .i64 d.law.spread, .int .i64 d.law.brk, .int .i64 d.law.on, .int .i64 d.law.off, .int .i64 d.law.least, .int .i64 d.law.pieces, .slice (some ⟨gB, 0, none⟩) d.blocks.length c7, .slice A2 d.walk.length c2] 27 (0, 0)) ∧ V.ownsRow we.heap.size 56 1 (.slice (some ⟨gB, 0, none⟩) d.blocks.length c7) d.blocks.length us) ?_ (fun wf hW => ?_)
    · have hX1 := box_step Hb1.out Xe.out
      have hX2 := blk_set hX1 (o := 8) (.slice (some ⟨gB, 0, none⟩) d.blocks.length c7)
      simp only [List.setIfInBounds_toArray, List.set_cons_succ, List.set_cons_zero] at hX2
      have hne1 : w.heap.size ≠ gX := by omega
      have hne2 : gR ≠ gX := by omega
      exact ⟨Hb1.out, (Hb1.out.mono (Nat.le_of_lt ltX2)).setCell (p := ⟨gX, 8, none⟩) (Nat.le_refl _) _, (Below.heap_setCell w1 ⟨gX, 8, none⟩ _ _ hne1).trans (Hb1.out.block _ ltG2), (Below.heap_setCell w1 ⟨gX, 8, none⟩ _ _ hne2).trans (Hb1.out.block _ ltR2), hX2, own_set Hown1.out (own_not Hown1.out hX1 (by decide)) _⟩
    obtain ⟨_, hbf, hf1, hf2, hf3, hf4⟩ := hW
    have hwf := hwe.trans (hbf.mono hgwX)
    have Gf := Lib.hid (hf1.trans Ge.out)
    have Rf := Lib.hid (hf2.trans Re.out)
    have Xf := Lib.hid hf3
    have Hof := Lib.hid hf4
    have hll14 := hm.block b l Hlb.out
    have hsz2 : we.heap.size ≤ wf.heap.size := by
      have := (Array.getElem?_eq_some_iff.1 hf3).1
      have h2 := hf4.lt
      have h3 := hbf.size
      omega
    clear hf1 hf2 hf3 hf4 Ge Re Xe gc gf xc xf g81 gf1 Hb1 Hown1
    obtain ⟨X, hX⟩ : ∃ X, X = cutD d b i ⟨(pl : Int), rl, rh⟩ := ⟨_, rfl⟩
    have HX := Lib.hid hX
    have HXb := Lib.hid (show X.blocks = d.blocks.set b (cutBl l i ⟨(pl : Int), rl, rh⟩) by rw [hX]; unfold cutD; rw [Hlb.out, Option.getD_some])
    have HXw := Lib.hid (show X.walk = d.walk by rw [hX]; rfl)
    have HXl := Lib.hid (show X.law = d.law by rw [hX]; rfl)
    have Hrc := Lib.hid (show relCells (cutBl l i ⟨(pl : Int), rl, rh⟩) = relCells (l.take (i + 1)) ++ [.int .i64 (pl : Int), .int .i64 rl, .int .i64 rh] ++ relCells (l.drop (i + 1)) by simp [cutBl, relCells, relC])
    clear hX
    go_wp2_with fail
    go_cut [19] from 109 to 134 (fun z wx => z = .pointer (some ⟨gX, 0, none⟩) ∧ Below w.heap.size w wx ∧ wx.heap[w.heap.size]? = some (.cells #[.int .i64 d.law.piece, .int .i64 d.law.drive, .int .i64 d.law.spread, .int .i64 d.law.brk, .int .i64 d.law.on, .int .i64 d.law.off, .int .i64 d.law.least, .int .i64 d.law.pieces, .slice (some ⟨bb, ob, none⟩) d.blocks.length c1, .slice A2 d.walk.length c2] 27 (0, 0)) ∧ wx.heap[gX]? = some (.cells #[.int .i64 d.law.piece, .int .i64 d.law.drive, .int .i64 d.law.spread, .int .i64 d.law.brk, .int .i64 d.law.on, .int .i64 d.law.off, .int .i64 d.law.least, .int .i64 d.law.pieces, .slice (some ⟨gB, 0, none⟩) d.blocks.length c7, .slice A2 d.walk.length c2] 27 (0, 0)) ∧ DayAt wx (.slice (some ⟨gB, 0, none⟩) d.blocks.length c7) (.slice A2 d.walk.length c2) X)
    case first =>
      have hB0 : Below wf.heap.size wf wf.drew := (Below.refl _ _).drew
      refine wp_region_noPanic ?_
      refine wp_region_pickA [0, 1, 2, 4, 5, 6, 7, 8, 9, 10, 11, 13, 16, 17, 18, 19, 20, 21, 22, 23] 7 (fun i => !(i == 26)) (fun w' => Below wf.heap.size wf w') (by kernel_rfl) (by kernel_rfl) (fun _ _ _ _ _ h => h) hB0 (fun hne => ?_)
      have n0 := fun x : Meets (fun w' => Below wf.heap.size wf w') => cell_below x.property (box_cells Xf.out 8)
      have n1 := fun x : Meets (fun w' => Below wf.heap.size wf w') => cell_below x.property (box_cells Gf.out 8)
      have n2 := fun x : Meets (fun w' => Below wf.heap.size wf w') => cell_below x.property (cell_below hwf HcbW.out)
      have n3 := fun x : Meets (fun w' => Below wf.heap.size wf w') => cell_below x.property (box_cells Rf.out 0)
      have n4 := fun x : Meets (fun w' => Below wf.heap.size wf w') => cell_below x.property (box_cells Rf.out 1)
      have n5 := fun x : Meets (fun w' => Below wf.heap.size wf w') => cell_below x.property (box_cells Rf.out 2)
      have hic : i + 1 ≤ c5 := by have := Hil.out; omega
      have hil2 : i + 1 ≤ l.length := by have := Hil.out; omega
      obtain ⟨u0, hu0⟩ : ∃ u0, us[b]? = some u0 := ⟨_, List.getElem?_eq_getElem (by rw [Hul.out]; exact hbl)⟩
      have Hu0 := Lib.hid hu0
      clear hu0
      simp only [pick, pickN, List.filterMap_cons, List.filterMap_nil, List.getElem?_cons_zero, List.getElem?_cons_succ, Option.map_some]
      repeat (change wpQuiet _ _ _ _ (_ :: _) _; go_big_quiet_step (fail))
      refine wpQuiet_nil ?_
      clear n0 n1 n2 n3 n4 n5 hne
      obtain ⟨v0, hv0⟩ : ∃ W, W = wf.drew := ⟨_, rfl⟩
      rw [← hv0] at hB0 ⊢
      clear hv0
      refine wpAnyF_two (i := 3) (j := 14) (by kernel_rfl) rfl rfl (fun K hK => ?_) (fun K hK => ?_)
      · go_simp
        have hB_4 := hB0.alloc hB0.size (.cells #[] 55)
        have eE_1 := own_mono (World.ownsRow_lit (base := v0.heap.size) (e := 55) (size := 3) v0 #[] 0 (Nat.le_refl _) (by simp [maxLen]) (by simp)) hB0.size
        have sg_2 : v0.heap.size < (v0.alloc (.cells #[] 55)).heap.size := by simp
        refine hK.out _ _ (fun _ => hB_4) ?_
        clear hK K
        obtain ⟨g_2, hg_2⟩ : ∃ g, v0.heap.size = g := ⟨_, rfl⟩
        rw [hg_2] at eE_1 sg_2 ⊢
        clear hg_2
        generalize v0.alloc (.cells #[] 55) = v_3 at *
        refine wpAnyF_two (i := 12) (j := 14) (by kernel_rfl) rfl rfl (fun K hK => ?_) (fun K hK => ?_)
        · refine step_append_src _ rfl (.tmp 112) (.tmp 120) 56 rfl wf.heap.size 55 i2 _ 3 24 Try.underlying56 hi2 hr0 hr1 hr2 rfl (by omega) (.slice (some ⟨g_2, 0, none⟩) 0 0) 0 [] rfl eE_1 (some ⟨b2, o2, none⟩) (i + 1) c5 (relCells (l.take (i + 1))) rfl ((HS1.out).below (hwf.trans (hB_4.mono hwf.size))) HS3.out (by simp [maxLen]; omega) (by omega) hB_4.size ?_
          intro AA_5 cc_6 v_7 own_8 hg_9 _
          simp only [Nat.zero_add, List.nil_append] at own_8 ⊢
          have hB_10 := below_grown hB_4 hg_9 hB_4.size eE_1 (Nat.le_refl _)
          refine hK.out _ _ (fun _ => hB_10) ?_
          clear hK K
          refine wpAnyF_one (i := 14) (by kernel_rfl) rfl (fun K hK => ?_)
          go_simp
          have hB_14 := hB_10.alloc hB_10.size (.cells #[.int .i64 (pl : Int), .int .i64 rl, .int .i64 rh] 55)
          have sL_11 := src_new v_7 [.int .i64 (pl : Int), .int .i64 rl, .int .i64 rh] 55 1 3 rfl
          have sg_12 : v_7.heap.size < (v_7.alloc (.cells #[.int .i64 (pl : Int), .int .i64 rl, .int .i64 rh] 55)).heap.size := by simp
          have eO_15 := World.ownsRow.alloc own_8 (.cells #[.int .i64 (pl : Int), .int .i64 rl, .int .i64 rh] 55)
          refine hK.out _ _ (fun _ => hB_14) ?_
          clear hK K
          obtain ⟨g_12, hg_12⟩ : ∃ g, v_7.heap.size = g := ⟨_, rfl⟩
          rw [hg_12] at sL_11 sg_12 ⊢
          clear hg_12
          generalize v_7.alloc (.cells #[.int .i64 (pl : Int), .int .i64 rl, .int .i64 rh] 55) = v_13 at *
          refine wpAnyF_one (i := 15) (by kernel_rfl) rfl (fun K hK => ?_)
          refine step_append_src _ rfl (.tmp 121) (.tmp 123) 56 rfl wf.heap.size 55 i2 _ 3 24 Try.underlying56 hi2 hr0 hr1 hr2 rfl (by omega) (.slice AA_5 (i + 1) cc_6) (i + 1) (relCells (l.take (i + 1))) rfl eO_15 (some ⟨g_12, 0, none⟩) 1 1 [.int .i64 (pl : Int), .int .i64 rl, .int .i64 rh] rfl sL_11 (by simp [Value.oneCell']) (by simp [maxLen]; omega) (by omega) hB_14.size ?_
          intro AA_16 cc_17 v_18 own_19 hg_20 _
          have hB_21 := below_grown hB_14 hg_20 hB_14.size eO_15 (Nat.le_refl _)
          refine hK.out _ _ (fun _ => hB_21) ?_
          clear hK K
          refine wpAnyF_one (i := 24) (by kernel_rfl) rfl (fun K hK => ?_)
          refine step_append_src _ rfl (.tmp 124) (.tmp 132) 56 rfl wf.heap.size 55 i2 _ 3 24 Try.underlying56 hi2 hr0 hr1 hr2 rfl (by omega) (.slice AA_16 (i + 1 + 1) cc_17) (i + 1 + 1) (relCells (l.take (i + 1)) ++ [.int .i64 (pl : Int), .int .i64 rl, .int .i64 rh]) rfl own_19 (some ⟨b2, o2 + (i + 1) * 3, none⟩) (l.length - (i + 1)) (c5 - (i + 1)) (relCells (l.drop (i + 1))) rfl ((HS2.out).below (hwf.trans (hB_21.mono hwf.size))) HS4.out (by simp [maxLen]; omega) (by omega) hB_21.size ?_
          intro AA_22 cc_23 v_24 own_25 hg_26 _
          have hB_27 := below_grown hB_21 hg_26 hB_21.size own_19 (Nat.le_refl _)
          refine hK.out _ _ (fun _ => hB_27) ?_
          clear hK K
          refine wpAnyF_one (i := 25) (by kernel_rfl) rfl (fun K hK => ?_)
          have hob := own_below Hof.out hB_27
          have fz := fun o => hob.frozenAt o
          have hcx := (hob.cellAt b (by omega)).trans Hu0.out
          go_simp
          refine hK.out _ _ (fun _ => hB_27) ?_
          clear hK K
          refine wpAnyF_one (i := 26) (by kernel_rfl) rfl (fun K hK => ?_)
          go_simp
          refine hK.out _ _ (fun h => by cases h) ?_
          clear hK K fz hcx
          have hst := hob.stored b (.slice AA_22 (i + 1 + 1 + (l.length - (i + 1))) cc_23)
          have hgb2 : gX ≤ gB := by omega
          have hbV : Below w.heap.size w (v_24.setCell ⟨gB, b, none⟩ (.slice AA_22 (i + 1 + 1 + (l.length - (i + 1))) cc_23)) := (hwf.trans (hB_27.mono hwf.size)).setCell (p := ⟨gB, b, none⟩) (by simp only; omega) _
          have hGV := (Below.heap_setCell v_24 ⟨gB, b, none⟩ (.slice AA_22 (i + 1 + 1 + (l.length - (i + 1))) cc_23) w.heap.size (by simp only; omega)).trans (box_step hB_27 Gf.out)
          have hXV := (Below.heap_setCell v_24 ⟨gB, b, none⟩ (.slice AA_22 (i + 1 + 1 + (l.length - (i + 1))) cc_23) gX (by simp only; omega)).trans (box_step hB_27 Xf.out)
          have hoV := own_25.kept hst.2 (own_apart own_25 hob (by decide))
          rw [← Hrc.out] at hoV
          have hDV : DayAt (v_24.setCell ⟨gB, b, none⟩ (.slice AA_22 (i + 1 + 1 + (l.length - (i + 1))) cc_23)) (.slice (some ⟨gB, 0, none⟩) d.blocks.length c7) (.slice A2 d.walk.length c2) X := by
            refine ⟨?_, by rw [HXw.out]; exact Hda.out.walk.below hbV⟩
            rw [HXb.out]
            exact blocks_of_in hst.1 ((Hui.out.below hbV).set (rels_of_own hoV))
          refine wpAnyF_done (by kernel_rfl) ?_ _
          refine NoPanic.normal ?_
          go_wp2_with fail
          go_meet
          case rel => exact ⟨rfl, hbV, hGV, hXV, hDV⟩
        · go_simp
          have hB_31 := hB_4.alloc hB_4.size (.cells #[.int .i64 (pl : Int), .int .i64 rl, .int .i64 rh] 55)
          have sL_28 := src_new v_3 [.int .i64 (pl : Int), .int .i64 rl, .int .i64 rh] 55 1 3 rfl
          have sg_29 : v_3.heap.size < (v_3.alloc (.cells #[.int .i64 (pl : Int), .int .i64 rl, .int .i64 rh] 55)).heap.size := by simp
          have eO_32 := World.ownsRow.alloc eE_1 (.cells #[.int .i64 (pl : Int), .int .i64 rl, .int .i64 rh] 55)
          refine hK.out _ _ (fun _ => hB_31) ?_
          clear hK K
          obtain ⟨g_29, hg_29⟩ : ∃ g, v_3.heap.size = g := ⟨_, rfl⟩
          rw [hg_29] at sL_28 sg_29 ⊢
          have ltg_2g_29 : g_2 < g_29 := by omega
          clear hg_29
          generalize v_3.alloc (.cells #[.int .i64 (pl : Int), .int .i64 rl, .int .i64 rh] 55) = v_30 at *
          refine wpAnyF_one (i := 12) (by kernel_rfl) rfl (fun K hK => ?_)
          refine step_append_src _ rfl (.tmp 112) (.tmp 120) 56 rfl wf.heap.size 55 i2 _ 3 24 Try.underlying56 hi2 hr0 hr1 hr2 rfl (by omega) (.slice (some ⟨g_2, 0, none⟩) 0 0) 0 [] rfl eO_32 (some ⟨b2, o2, none⟩) (i + 1) c5 (relCells (l.take (i + 1))) rfl ((HS1.out).below (hwf.trans (hB_31.mono hwf.size))) HS3.out (by simp [maxLen]; omega) (by omega) hB_31.size ?_
          intro AA_33 cc_34 v_35 own_36 hg_37 _
          simp only [Nat.zero_add, List.nil_append] at own_36 ⊢
          have hB_38 := below_grown hB_31 hg_37 hB_31.size eO_32 (Nat.le_refl _)
          have sL_39 := Src.grownS sL_28 hg_37 (show g_29 ≠ g_2 by omega)
          refine hK.out _ _ (fun _ => hB_38) ?_
          clear hK K
          refine wpAnyF_one (i := 15) (by kernel_rfl) rfl (fun K hK => ?_)
          refine step_append_src _ rfl (.tmp 121) (.tmp 123) 56 rfl wf.heap.size 55 i2 _ 3 24 Try.underlying56 hi2 hr0 hr1 hr2 rfl (by omega) (.slice AA_33 (i + 1) cc_34) (i + 1) (relCells (l.take (i + 1))) rfl own_36 (some ⟨g_29, 0, none⟩) 1 1 [.int .i64 (pl : Int), .int .i64 rl, .int .i64 rh] rfl sL_39 (by simp [Value.oneCell']) (by simp [maxLen]; omega) (by omega) hB_38.size ?_
          intro AA_40 cc_41 v_42 own_43 hg_44 _
          have hB_45 := below_grown hB_38 hg_44 hB_38.size own_36 (Nat.le_refl _)
          refine hK.out _ _ (fun _ => hB_45) ?_
          clear hK K
          refine wpAnyF_one (i := 24) (by kernel_rfl) rfl (fun K hK => ?_)
          refine step_append_src _ rfl (.tmp 124) (.tmp 132) 56 rfl wf.heap.size 55 i2 _ 3 24 Try.underlying56 hi2 hr0 hr1 hr2 rfl (by omega) (.slice AA_40 (i + 1 + 1) cc_41) (i + 1 + 1) (relCells (l.take (i + 1)) ++ [.int .i64 (pl : Int), .int .i64 rl, .int .i64 rh]) rfl own_43 (some ⟨b2, o2 + (i + 1) * 3, none⟩) (l.length - (i + 1)) (c5 - (i + 1)) (relCells (l.drop (i + 1))) rfl ((HS2.out).below (hwf.trans (hB_45.mono hwf.size))) HS4.out (by simp [maxLen]; omega) (by omega) hB_45.size ?_
          intro AA_46 cc_47 v_48 own_49 hg_50 _
          have hB_51 := below_grown hB_45 hg_50 hB_45.size own_43 (Nat.le_refl _)
          refine hK.out _ _ (fun _ => hB_51) ?_
          clear hK K
          refine wpAnyF_one (i := 25) (by kernel_rfl) rfl (fun K hK => ?_)
          have hob := own_below Hof.out hB_51
          have fz := fun o => hob.frozenAt o
          have hcx := (hob.cellAt b (by omega)).trans Hu0.out
          go_simp
          refine hK.out _ _ (fun _ => hB_51) ?_
          clear hK K
          refine wpAnyF_one (i := 26) (by kernel_rfl) rfl (fun K hK => ?_)
          go_simp
          refine hK.out _ _ (fun h => by cases h) ?_
          clear hK K fz hcx
          have hst := hob.stored b (.slice AA_46 (i + 1 + 1 + (l.length - (i + 1))) cc_47)
          have hgb2 : gX ≤ gB := by omega
          have hbV : Below w.heap.size w (v_48.setCell ⟨gB, b, none⟩ (.slice AA_46 (i + 1 + 1 + (l.length - (i + 1))) cc_47)) := (hwf.trans (hB_51.mono hwf.size)).setCell (p := ⟨gB, b, none⟩) (by simp only; omega) _
          have hGV := (Below.heap_setCell v_48 ⟨gB, b, none⟩ (.slice AA_46 (i + 1 + 1 + (l.length - (i + 1))) cc_47) w.heap.size (by simp only; omega)).trans (box_step hB_51 Gf.out)
          have hXV := (Below.heap_setCell v_48 ⟨gB, b, none⟩ (.slice AA_46 (i + 1 + 1 + (l.length - (i + 1))) cc_47) gX (by simp only; omega)).trans (box_step hB_51 Xf.out)
          have hoV := own_49.kept hst.2 (own_apart own_49 hob (by decide))
          rw [← Hrc.out] at hoV
          have hDV : DayAt (v_48.setCell ⟨gB, b, none⟩ (.slice AA_46 (i + 1 + 1 + (l.length - (i + 1))) cc_47)) (.slice (some ⟨gB, 0, none⟩) d.blocks.length c7) (.slice A2 d.walk.length c2) X := by
            refine ⟨?_, by rw [HXw.out]; exact Hda.out.walk.below hbV⟩
            rw [HXb.out]
            exact blocks_of_in hst.1 ((Hui.out.below hbV).set (rels_of_own hoV))
          refine wpAnyF_done (by kernel_rfl) ?_ _
          refine NoPanic.normal ?_
          go_wp2_with fail
          go_meet
          case rel => exact ⟨rfl, hbV, hGV, hXV, hDV⟩
      · go_simp
        have hB_55 := hB0.alloc hB0.size (.cells #[.int .i64 (pl : Int), .int .i64 rl, .int .i64 rh] 55)
        have sL_52 := src_new v0 [.int .i64 (pl : Int), .int .i64 rl, .int .i64 rh] 55 1 3 rfl
        have sg_53 : v0.heap.size < (v0.alloc (.cells #[.int .i64 (pl : Int), .int .i64 rl, .int .i64 rh] 55)).heap.size := by simp
        refine hK.out _ _ (fun _ => hB_55) ?_
        clear hK K
        obtain ⟨g_53, hg_53⟩ : ∃ g, v0.heap.size = g := ⟨_, rfl⟩
        rw [hg_53] at sL_52 sg_53 ⊢
        clear hg_53
        generalize v0.alloc (.cells #[.int .i64 (pl : Int), .int .i64 rl, .int .i64 rh] 55) = v_54 at *
        refine wpAnyF_one (i := 3) (by kernel_rfl) rfl (fun K hK => ?_)
        go_simp
        have hB_59 := hB_55.alloc hB_55.size (.cells #[] 55)
        have eE_56 := own_mono (World.ownsRow_lit (base := v_54.heap.size) (e := 55) (size := 3) v_54 #[] 0 (Nat.le_refl _) (by simp [maxLen]) (by simp)) hB_55.size
        have sg_57 : v_54.heap.size < (v_54.alloc (.cells #[] 55)).heap.size := by simp
        have sL_60 := Src.below sL_52 ((Below.refl _ _).alloc (Nat.le_refl _) (.cells #[] 55))
        refine hK.out _ _ (fun _ => hB_59) ?_
        clear hK K
        obtain ⟨g_57, hg_57⟩ : ∃ g, v_54.heap.size = g := ⟨_, rfl⟩
        rw [hg_57] at eE_56 sg_57 ⊢
        have ltg_53g_57 : g_53 < g_57 := by omega
        clear hg_57
        generalize v_54.alloc (.cells #[] 55) = v_58 at *
        refine wpAnyF_one (i := 12) (by kernel_rfl) rfl (fun K hK => ?_)
        refine step_append_src _ rfl (.tmp 112) (.tmp 120) 56 rfl wf.heap.size 55 i2 _ 3 24 Try.underlying56 hi2 hr0 hr1 hr2 rfl (by omega) (.slice (some ⟨g_57, 0, none⟩) 0 0) 0 [] rfl eE_56 (some ⟨b2, o2, none⟩) (i + 1) c5 (relCells (l.take (i + 1))) rfl ((HS1.out).below (hwf.trans (hB_59.mono hwf.size))) HS3.out (by simp [maxLen]; omega) (by omega) hB_59.size ?_
        intro AA_61 cc_62 v_63 own_64 hg_65 _
        simp only [Nat.zero_add, List.nil_append] at own_64 ⊢
        have hB_66 := below_grown hB_59 hg_65 hB_59.size eE_56 (Nat.le_refl _)
        have sL_67 := Src.grownS sL_60 hg_65 (show g_53 ≠ g_57 by omega)
        refine hK.out _ _ (fun _ => hB_66) ?_
        clear hK K
        refine wpAnyF_one (i := 15) (by kernel_rfl) rfl (fun K hK => ?_)
        refine step_append_src _ rfl (.tmp 121) (.tmp 123) 56 rfl wf.heap.size 55 i2 _ 3 24 Try.underlying56 hi2 hr0 hr1 hr2 rfl (by omega) (.slice AA_61 (i + 1) cc_62) (i + 1) (relCells (l.take (i + 1))) rfl own_64 (some ⟨g_53, 0, none⟩) 1 1 [.int .i64 (pl : Int), .int .i64 rl, .int .i64 rh] rfl sL_67 (by simp [Value.oneCell']) (by simp [maxLen]; omega) (by omega) hB_66.size ?_
        intro AA_68 cc_69 v_70 own_71 hg_72 _
        have hB_73 := below_grown hB_66 hg_72 hB_66.size own_64 (Nat.le_refl _)
        refine hK.out _ _ (fun _ => hB_73) ?_
        clear hK K
        refine wpAnyF_one (i := 24) (by kernel_rfl) rfl (fun K hK => ?_)
        refine step_append_src _ rfl (.tmp 124) (.tmp 132) 56 rfl wf.heap.size 55 i2 _ 3 24 Try.underlying56 hi2 hr0 hr1 hr2 rfl (by omega) (.slice AA_68 (i + 1 + 1) cc_69) (i + 1 + 1) (relCells (l.take (i + 1)) ++ [.int .i64 (pl : Int), .int .i64 rl, .int .i64 rh]) rfl own_71 (some ⟨b2, o2 + (i + 1) * 3, none⟩) (l.length - (i + 1)) (c5 - (i + 1)) (relCells (l.drop (i + 1))) rfl ((HS2.out).below (hwf.trans (hB_73.mono hwf.size))) HS4.out (by simp [maxLen]; omega) (by omega) hB_73.size ?_
        intro AA_74 cc_75 v_76 own_77 hg_78 _
        have hB_79 := below_grown hB_73 hg_78 hB_73.size own_71 (Nat.le_refl _)
        refine hK.out _ _ (fun _ => hB_79) ?_
        clear hK K
        refine wpAnyF_one (i := 25) (by kernel_rfl) rfl (fun K hK => ?_)
        have hob := own_below Hof.out hB_79
        have fz := fun o => hob.frozenAt o
        have hcx := (hob.cellAt b (by omega)).trans Hu0.out
        go_simp
        refine hK.out _ _ (fun _ => hB_79) ?_
        clear hK K
        refine wpAnyF_one (i := 26) (by kernel_rfl) rfl (fun K hK => ?_)
        go_simp
        refine hK.out _ _ (fun h => by cases h) ?_
        clear hK K fz hcx
        have hst := hob.stored b (.slice AA_74 (i + 1 + 1 + (l.length - (i + 1))) cc_75)
        have hgb2 : gX ≤ gB := by omega
        have hbV : Below w.heap.size w (v_76.setCell ⟨gB, b, none⟩ (.slice AA_74 (i + 1 + 1 + (l.length - (i + 1))) cc_75)) := (hwf.trans (hB_79.mono hwf.size)).setCell (p := ⟨gB, b, none⟩) (by simp only; omega) _
        have hGV := (Below.heap_setCell v_76 ⟨gB, b, none⟩ (.slice AA_74 (i + 1 + 1 + (l.length - (i + 1))) cc_75) w.heap.size (by simp only; omega)).trans (box_step hB_79 Gf.out)
        have hXV := (Below.heap_setCell v_76 ⟨gB, b, none⟩ (.slice AA_74 (i + 1 + 1 + (l.length - (i + 1))) cc_75) gX (by simp only; omega)).trans (box_step hB_79 Xf.out)
        have hoV := own_77.kept hst.2 (own_apart own_77 hob (by decide))
        rw [← Hrc.out] at hoV
        have hDV : DayAt (v_76.setCell ⟨gB, b, none⟩ (.slice AA_74 (i + 1 + 1 + (l.length - (i + 1))) cc_75)) (.slice (some ⟨gB, 0, none⟩) d.blocks.length c7) (.slice A2 d.walk.length c2) X := by
          refine ⟨?_, by rw [HXw.out]; exact Hda.out.walk.below hbV⟩
          rw [HXb.out]
          exact blocks_of_in hst.1 ((Hui.out.below hbV).set (rels_of_own hoV))
        refine wpAnyF_done (by kernel_rfl) ?_ _
        refine NoPanic.normal ?_
        go_wp2_with fail
        go_meet
        case rel => exact ⟨rfl, hbV, hGV, hXV, hDV⟩
    case rest =>
      obtain ⟨rfl, hwb, hgb, hxb, hxd⟩ := hcut
      rename World => wb
      have Gb := Lib.hid hgb
      have Xb := Lib.hid hxb
      have gc := box_cells Gb.out
      have gf := box_frozen Gb.out
      have xc := box_cells Xb.out
      have xf := box_frozen Xb.out
      have hXm : Mild X := by
        refine ⟨by rw [HXb.out, List.length_set]; exact hm.blocks, fun c x hx => ?_, by rw [HXw.out]; exact hm.walk, by rw [HXw.out]; exact hm.row⟩
        rw [HXb.out, List.getElem?_set] at hx
        by_cases e : b = c
        · rw [if_pos e] at hx
          split at hx
          · cases hx
            have h1 := segN_take_succ Hlb.out
            have h2 := segN_take_all d.blocks (b + 1)
            unfold cutBl
            simp only [List.length_append, List.length_take, List.length_cons, List.length_nil, List.length_drop]
            omega
          · rename_i hn
            exact absurd hbl hn
        · rw [if_neg e] at hx
          exact hm.block c x hx
      have HXm := Lib.hid hXm
      have HFX := Lib.hid (show ∀ (u z : Value) (w' : World), DayAt w' u z X → Calls Try.prog 22 #[.agg #[.int .i64 d.law.piece, .int .i64 d.law.drive, .int .i64 d.law.spread, .int .i64 d.law.brk, .int .i64 d.law.on, .int .i64 d.law.off, .int .i64 d.law.least, .int .i64 d.law.pieces, u, z]] w' (Gives w' (.int .i64 (faultD X))) from fun u z w' h => HXl.out ▸ FaultR_any X u z w' h HXm.out)
      clear hgb hxb hXm
      go_wp2_with fail
      by_cases hfx : faultD X = 0
      · have hXok : DayOk X := day_ok.1 hfx
        have HXf := Lib.hid (show (faultD X != 0) = false by rw [hfx]; rfl)
        rw [hfx] at HFX
        have hget : d.blocks[b]?.getD [] = l := by rw [Hlb.out, Option.getD_some]
        have hil3 : i + 1 < (d.blocks[b]?.getD []).length := by rw [hget]; exact Hil.out
        obtain ⟨LG, hLG⟩ : ∃ b : Bool, legalL d (setL (segN d.blocks) y) = b := ⟨_, rfl⟩
        have hod := set_duty (d := d) y Hs.out
        have hxd2 : IsDuty X (cutL s (setL (segN d.blocks) y)) := by rw [HX.out, Hso.out]; exact cut_duty hbl hil3 hod
        have hxl : legalL X (cutL s (setL (segN d.blocks) y)) = LG := by
          rw [HX.out, Hso.out, cut_legal hbl hil3 hod, hLG]
        have hlo2 := setL_len (segN d.blocks) y
        have hbn : bestN X ≤ bestN d := by
          rw [HX.out]
          exact cut_bestN hbl hil3 Hd.out (by rw [← HX.out]; exact hXok)
        obtain ⟨BX, hBX⟩ : ∃ v, bestN X = v := ⟨_, rfl⟩
        obtain ⟨BD, hBD⟩ : ∃ v, bestN d = v := ⟨_, rfl⟩
        rw [hBX, hBD] at hbn
        have HBD := Lib.hid (show ∀ (u z : Value) (w' : World), DayAt w' u z d → Calls Try.prog 23 #[.agg #[.int .i64 d.law.piece, .int .i64 d.law.drive, .int .i64 d.law.spread, .int .i64 d.law.brk, .int .i64 d.law.on, .int .i64 d.law.off, .int .i64 d.law.least, .int .i64 d.law.pieces, u, z]] w' (Gives w' (.int .i64 BD)) from fun u z w' h => hBD ▸ best_any d u z w' h hm Hf.out)
        have HBX := Lib.hid (show ∀ (u z : Value) (w' : World), DayAt w' u z X → Calls Try.prog 23 #[.agg #[.int .i64 d.law.piece, .int .i64 d.law.drive, .int .i64 d.law.spread, .int .i64 d.law.brk, .int .i64 d.law.on, .int .i64 d.law.off, .int .i64 d.law.least, .int .i64 d.law.pieces, u, z]] w' (Gives w' (.int .i64 BX)) from fun u z w' h => hBX ▸ HXl.out ▸ best_any X u z w' h HXm.out HXf.out)
        have HDX := Lib.hid (show ∀ (u z : Value) (w' : World), DayAt w' u z X → Calls Try.prog 15 #[.agg #[.int .i64 d.law.piece, .int .i64 d.law.drive, .int .i64 d.law.spread, .int .i64 d.law.brk, .int .i64 d.law.on, .int .i64 d.law.off, .int .i64 d.law.least, .int .i64 d.law.pieces, u, z]] w' (GivesDay d.law X w') from fun u z w' h => HXl.out ▸ DayC_any X u z w' h HXm.out)
        obtain ⟨S, hS⟩ : ∃ S : List Nat, setL (segN d.blocks) y = S := ⟨_, rfl⟩
        rw [hS] at hLG hod hxd2 hxl hlo2
        have HLD := Lib.hid (show ∀ (u z v : Value) (w' : World), DayAt w' u z d → NumsAt .i64 w' v (natsI S) → Calls Try.prog 20 #[.agg #[.int .i64 d.law.piece, .int .i64 d.law.drive, .int .i64 d.law.spread, .int .i64 d.law.brk, .int .i64 d.law.on, .int .i64 d.law.off, .int .i64 d.law.least, .int .i64 d.law.pieces, u, z], v] w' (Gives w' (.tuple #[.bool LG, .int .i64 0])) from fun u z v w' h k => by
          have := LegalS_any d u z v S w' h hm Hf.out k hod
          rwa [hLG] at this)
        have HLX := Lib.hid (show ∀ (u z v : Value) (w' : World), DayAt w' u z X → NumsAt .i64 w' v (natsI (cutL s S)) → Calls Try.prog 20 #[.agg #[.int .i64 d.law.piece, .int .i64 d.law.drive, .int .i64 d.law.spread, .int .i64 d.law.brk, .int .i64 d.law.on, .int .i64 d.law.off, .int .i64 d.law.least, .int .i64 d.law.pieces, u, z], v] w' (Gives w' (.tuple #[.bool LG, .int .i64 0])) from fun u z v w' h k => by
          have := LegalS_any X u z v (cutL s S) w' h HXm.out HXf.out k hxd2
          rwa [hxl, HXl.out] at this)
        have HSS := Lib.hid hS
        have HSl := Lib.hid (natsI_len S)
        have HSd := Lib.hid hod.lt
        clear hBX hBD hXok hLG hod hxd2 hxl hS hget hil3 hfx
        go_wp2_with fail
        refine (HFX.out _ _ _ hxd).mono ?_
        rintro e w6 ⟨rfl, hb6⟩
        have hw6 := hwb.trans (hb6.mono hwb.size)
        have G6 := Lib.hid (box_step hb6 Gb.out)
        replace gc := box_cells G6.out
        replace gf := box_frozen G6.out
        have X6 := Lib.hid (box_step hb6 Xb.out)
        replace xc := box_cells X6.out
        replace xf := box_frozen X6.out
        replace hxd := hxd.below hb6
        go_wp2_with fail
        refine (Set_any d _ _ y _ (Hda.out.below hw6) hm (by omega) hy).mono ?_
        rintro e w7 ⟨A6, c6, rfl, ho6, hb7⟩
        have hw7 := hw6.trans (hb7.mono hw6.size)
        have G7 := Lib.hid (box_step hb7 G6.out)
        replace gc := box_cells G7.out
        replace gf := box_frozen G7.out
        have X7 := Lib.hid (box_step hb7 X6.out)
        replace xc := box_cells X7.out
        replace xf := box_frozen X7.out
        replace hxd := hxd.below hb7
        rw [HSS.out, HSl.out] at ho6 ⊢
        have hov := nums_of_own (K := .i64) ho6
        clear ho6
        have Hxd := Lib.hid hxd
        have Hov := Lib.hid hov
        clear hxd hov
        have HST := Lib.hid (show S.take S.length = S by rw [List.take_length])
        go_wp2_with fail
        go_loopw [21, 22] (fun v i wr => ∃ (k : Nat) (A : Option Addr) (c : Nat), k ≤ S.length ∧ i = .int .i64 k ∧ v = .slice A (cutL s (S.take k)).length c ∧ Below w7.heap.size w7 wr ∧ wr.ownsRow w7.heap.size 3 1 v (cutL s (S.take k)).length ((natsI (cutL s (S.take k))).map (.int .i64))) (fun v i wr => S.length - (intOf i).toNat)
        case atStart => exact ⟨0, none, 0, by omega, rfl, rfl, Below.refl _ _, by simpa [natsI, cutL] using World.ownsRow_nil w7 w7.heap.size 3 1⟩
        case round =>
          obtain ⟨k, A, c, hk, rfl, rfl, hbr, hown⟩ := hrel
          obtain ⟨wo, rfl⟩ : ∃ wo : World, wo = wr := ⟨_, rfl⟩
          have hwo := hw7.trans (hbr.mono hw7.size)
          have Go := Lib.hid (box_step hbr G7.out)
          have Xo := Lib.hid (box_step hbr X7.out)
          replace gc := box_cells Go.out
          replace gf := box_frozen Go.out
          replace xc := box_cells Xo.out
          replace xf := box_frozen Xo.out
          have Hown := Lib.hid hown
          have hsz := hbr.size
          clear hown
          by_cases hlt2 : k < S.length
          · have hkI : (k : Int) < (S.length : Int) := by omega
            obtain ⟨b7, o7, xx, rfl, hx, cx, hb7⟩ := (Hov.out.below hbr).at_ (k := k) (by rw [HSl.out]; exact hlt2)
            obtain ⟨a, rfl, ha⟩ := natsI_get hx
            have haN := HSd.out a (List.mem_of_getElem? ha)
            have Hst := Lib.hid (cutL_take (s := s) ha)
            have hle := cutL_len s (S.take k)
            have hle2 : (S.take k).length ≤ k := List.length_take_le _ _
            generalize hnb : (cutL s (S.take k)).length = nb at *
            have Hnb := Lib.hid hnb
            generalize (S.take k).length = nt at *
            clear hnb hx ha
            by_cases has : a < s
            · have Hs3 := Lib.hid (show cutL s (S.take (k + 1)) = cutL s (S.take k) ++ [a] by rw [Hst.out, if_pos has])
              have hasI : (a : Int) < (s : Int) := by omega
              go_wp2_with (at_builtin; go_loud (refine wpList_append_src _ rfl (.tmp 163) (.tmp 168) 28 rfl w7.heap.size 3 i0 _ 1 8 Try.underlying28 hi0 hz0 hz1 hz2 rfl (by omega) _ nb _ rfl (Hown.out.alloc _) (some ⟨wo.heap.size, 0, none⟩) 1 1 [.int .i64 (a : Int)] rfl (src_new wo [.int .i64 (a : Int)] 3 1 1 rfl) (by simp [Value.oneCell']) (by simp [maxLen]; omega) (by omega) (by simp; omega) ?_; intro v1 w1 hown1 hg1 hat1; have Hg1 := Lib.hid hg1; obtain ⟨AA1, cc1, rfl⟩ := own_form hown1; have Hown1 := Lib.hid hown1; clear hown1 hg1 hat1))
              go_roundw
              case rel =>
                refine ⟨k + 1, AA1, cc1, by omega, by go_num, by rw [Hs3.out, List.length_append, Hnb.out]; rfl, (hbr.alloc hsz _).grown Hg1.out (by simp; omega) fun q hq => (Hown.out.lt q hq).1, ?_⟩
                rw [Hs3.out, List.length_append, Hnb.out]
                have := Hown1.out
                simpa [natsI] using this
              case measure => simp [intOf]; omega
            · have hasI : ¬ (a : Int) < (s : Int) := by omega
              by_cases hae : a = s
              · have Hs3 := Lib.hid (show cutL s (S.take (k + 1)) = cutL s (S.take k) ++ [s, s + 1] by rw [Hst.out, if_neg has, if_pos hae])
                subst hae
                have haq : ((a : Int) == (a : Int)) = true := by simp
                go_wp2_with (at_builtin; go_loud (refine wpList_append_src _ rfl (.tmp 177) (.tmp 181) 28 rfl w7.heap.size 3 i0 _ 1 8 Try.underlying28 hi0 hz0 hz1 hz2 rfl (by omega) _ nb _ rfl (Hown.out.alloc _) (some ⟨wo.heap.size, 0, none⟩) 2 2 [.int .i64 (a : Int), .int .i64 ((a : Int) + 1)] rfl (src_new wo [.int .i64 (a : Int), .int .i64 ((a : Int) + 1)] 3 2 1 rfl) (by simp [Value.oneCell']) (by simp [maxLen]; omega) (by omega) (by simp; omega) ?_; intro v1 w1 hown1 hg1 hat1; have Hg1 := Lib.hid hg1; obtain ⟨AA1, cc1, rfl⟩ := own_form hown1; have Hown1 := Lib.hid hown1; clear hown1 hg1 hat1))
                go_roundw
                case rel =>
                  refine ⟨k + 1, AA1, cc1, by omega, by go_num, by rw [Hs3.out, List.length_append, Hnb.out]; rfl, (hbr.alloc hsz _).grown Hg1.out (by simp; omega) fun q hq => (Hown.out.lt q hq).1, ?_⟩
                  rw [Hs3.out, List.length_append, Hnb.out]
                  have := Hown1.out
                  simpa [natsI] using this
                case measure => simp [intOf]; omega
              · have Hs3 := Lib.hid (show cutL s (S.take (k + 1)) = cutL s (S.take k) ++ [a + 1] by rw [Hst.out, if_neg has, if_neg hae])
                have haq : ((a : Int) == (s : Int)) = false := by rw [Bool.eq_false_iff]; simp only [ne_eq, beq_iff_eq]; omega
                clear hae
                go_wp2_with (at_builtin; go_loud (refine wpList_append_src _ rfl (.tmp 148) (.tmp 154) 28 rfl w7.heap.size 3 i0 _ 1 8 Try.underlying28 hi0 hz0 hz1 hz2 rfl (by omega) _ nb _ rfl (Hown.out.alloc _) (some ⟨wo.heap.size, 0, none⟩) 1 1 [.int .i64 ((a : Int) + 1)] rfl (src_new wo [.int .i64 ((a : Int) + 1)] 3 1 1 rfl) (by simp [Value.oneCell']) (by simp [maxLen]; omega) (by omega) (by simp; omega) ?_; intro v1 w1 hown1 hg1 hat1; have Hg1 := Lib.hid hg1; obtain ⟨AA1, cc1, rfl⟩ := own_form hown1; have Hown1 := Lib.hid hown1; clear hown1 hg1 hat1))
                go_roundw
                case rel =>
                  refine ⟨k + 1, AA1, cc1, by omega, by go_num, by rw [Hs3.out, List.length_append, Hnb.out]; rfl, (hbr.alloc hsz _).grown Hg1.out (by simp; omega) fun q hq => (Hown.out.lt q hq).1, ?_⟩
                  rw [Hs3.out, List.length_append, Hnb.out]
                  have := Hown1.out
                  simpa [natsI] using this
                case measure => simp [intOf]; omega
          · obtain rfl : k = S.length := by omega
            have hkI : ¬ (S.length : Int) < (S.length : Int) := by omega
            rw [HST.out] at Hown ⊢
            have hlv := nums_of_own (K := .i64) Hown.out
            have hxd := Hxd.out.below hbr
            have hov := Hov.out.below hbr
            clear Hown Hxd Hov
            go_wp2_with fail
            refine (DayC_any d _ _ _ (Hda.out.below hwo) hm).mono ?_
            rintro e w8 ⟨B18, B28, e18, e28, rfl, hd8, hb8⟩
            have hw8 := hwo.trans (hb8.mono hwo.size)
            have G8 := Lib.hid (box_step hb8 Go.out)
            replace gc := box_cells G8.out
            replace gf := box_frozen G8.out
            have X8 := Lib.hid (box_step hb8 Xo.out)
            replace xc := box_cells X8.out
            replace xf := box_frozen X8.out
            replace hxd := hxd.below hb8
            replace hov := hov.below hb8
            replace hlv := hlv.below hb8
            go_wp2_with fail
            refine (copy_any _ (natsI S) _ hov (by rw [HSl.out]; omega)).mono ?_
            rintro e w9 ⟨A9, c9, rfl, ho7, hb9⟩
            have hw9 := hw8.trans (hb9.mono hw8.size)
            have G9 := Lib.hid (box_step hb9 G8.out)
            replace gc := box_cells G9.out
            replace gf := box_frozen G9.out
            have X9 := Lib.hid (box_step hb9 X8.out)
            replace xc := box_cells X9.out
            replace xf := box_frozen X9.out
            replace hxd := hxd.below hb9
            replace hov := hov.below hb9
            replace hlv := hlv.below hb9
            rw [HSl.out] at ho7 ⊢
            have hn7 := nums_of_own (K := .i64) ho7
            have hd8b := hd8.below hb9
            clear ho7
            go_wp2_with fail
            refine (HLD.out _ _ _ _ hd8b hn7).mono ?_
            rintro e w10 ⟨rfl, hb10⟩
            have hw10 := hw9.trans (hb10.mono hw9.size)
            have G10 := Lib.hid (box_step hb10 G9.out)
            replace gc := box_cells G10.out
            replace gf := box_frozen G10.out
            have X10 := Lib.hid (box_step hb10 X9.out)
            replace xc := box_cells X10.out
            replace xf := box_frozen X10.out
            replace hxd := hxd.below hb10
            replace hov := hov.below hb10
            replace hlv := hlv.below hb10
            clear hd8 hd8b hn7
            go_wp2_with fail
            refine (HDX.out _ _ _ hxd).mono ?_
            rintro e w11 ⟨B111, B211, e111, e211, rfl, hd11, hb11⟩
            have hw11 := hw10.trans (hb11.mono hw10.size)
            have G11 := Lib.hid (box_step hb11 G10.out)
            replace gc := box_cells G11.out
            replace gf := box_frozen G11.out
            have X11 := Lib.hid (box_step hb11 X10.out)
            replace xc := box_cells X11.out
            replace xf := box_frozen X11.out
            replace hxd := hxd.below hb11
            replace hov := hov.below hb11
            replace hlv := hlv.below hb11
            go_wp2_with fail
            refine (HLX.out _ _ _ _ hd11 hlv).mono ?_
            rintro e w12 ⟨rfl, hb12⟩
            have hw12 := hw11.trans (hb12.mono hw11.size)
            have G12 := Lib.hid (box_step hb12 G11.out)
            replace gc := box_cells G12.out
            replace gf := box_frozen G12.out
            have X12 := Lib.hid (box_step hb12 X11.out)
            replace xc := box_cells X12.out
            replace xf := box_frozen X12.out
            replace hxd := hxd.below hb12
            replace hov := hov.below hb12
            replace hlv := hlv.below hb12
            clear hd11
            have hgg : (LG == LG) = true := by simp
            have hdb : decide (BX ≤ BD) = true := decide_eq_true hbn
            go_wp2_with fail
            refine wp_region_noPanic ?_
            refine wp_region_ph [([0, 1, 2, 3, 4, 5, 6, 7, 8, 9, 10, 11, 12, 14], [13, 15, 16, 17, 18, 19, 20, 21])] (fun _ => true) (fun w' => Below w12.heap.size w12 w') (by kernel_rfl) (by kernel_rfl) (fun _ _ _ _ _ h => h) ?_
            have hb13 : Below w12.heap.size w12 w12.drew := (Below.refl _ _).drew
            have HS13 := Lib.hid hb13
            obtain ⟨w13, hwe13⟩ : ∃ W, W = w12.drew := ⟨_, rfl⟩
            rw [← hwe13] at hb13 HS13 ⊢
            clear hwe13
            have hw13 := hw12.trans (hb13.mono hw12.size)
            have G13 := Lib.hid (box_step hb13 G12.out)
            replace gc := box_cells G13.out
            replace gf := box_frozen G13.out
            have X13 := Lib.hid (box_step hb13 X12.out)
            replace xc := box_cells X13.out
            replace xf := box_frozen X13.out
            replace hxd := hxd.below hb13
            refine wpPh_cons HS13.out (fun hne => ?_)
            have n0 := fun x : Meets (fun w' => Below w12.heap.size w12 w') => cell_below x.property (box_cells G12.out 0)
            have n1 := fun x : Meets (fun w' => Below w12.heap.size w12 w') => cell_below x.property (box_cells G12.out 1)
            have n2 := fun x : Meets (fun w' => Below w12.heap.size w12 w') => cell_below x.property (box_cells G12.out 2)
            have n3 := fun x : Meets (fun w' => Below w12.heap.size w12 w') => cell_below x.property (box_cells G12.out 3)
            have n4 := fun x : Meets (fun w' => Below w12.heap.size w12 w') => cell_below x.property (box_cells G12.out 4)
            have n5 := fun x : Meets (fun w' => Below w12.heap.size w12 w') => cell_below x.property (box_cells G12.out 5)
            have n6 := fun x : Meets (fun w' => Below w12.heap.size w12 w') => cell_below x.property (box_cells G12.out 6)
            have n7 := fun x : Meets (fun w' => Below w12.heap.size w12 w') => cell_below x.property (box_cells G12.out 7)
            have n8 := fun x : Meets (fun w' => Below w12.heap.size w12 w') => cell_below x.property (box_cells G12.out 8)
            have n9 := fun x : Meets (fun w' => Below w12.heap.size w12 w') => cell_below x.property (box_cells G12.out 9)
            have n10 := fun x : Meets (fun w' => Below w12.heap.size w12 w') => cell_below x.property (box_cells X12.out 0)
            have n11 := fun x : Meets (fun w' => Below w12.heap.size w12 w') => cell_below x.property (box_cells X12.out 1)
            have n12 := fun x : Meets (fun w' => Below w12.heap.size w12 w') => cell_below x.property (box_cells X12.out 2)
            have n13 := fun x : Meets (fun w' => Below w12.heap.size w12 w') => cell_below x.property (box_cells X12.out 3)
            have n14 := fun x : Meets (fun w' => Below w12.heap.size w12 w') => cell_below x.property (box_cells X12.out 4)
            have n15 := fun x : Meets (fun w' => Below w12.heap.size w12 w') => cell_below x.property (box_cells X12.out 5)
            have n16 := fun x : Meets (fun w' => Below w12.heap.size w12 w') => cell_below x.property (box_cells X12.out 6)
            have n17 := fun x : Meets (fun w' => Below w12.heap.size w12 w') => cell_below x.property (box_cells X12.out 7)
            have n18 := fun x : Meets (fun w' => Below w12.heap.size w12 w') => cell_below x.property (box_cells X12.out 8)
            have n19 := fun x : Meets (fun w' => Below w12.heap.size w12 w') => cell_below x.property (box_cells X12.out 9)
            simp only [pick, pickN, List.filterMap_cons, List.filterMap_nil, List.getElem?_cons_zero, List.getElem?_cons_succ, Option.map_some]
            repeat (change wpQuiet _ _ _ _ (_ :: _) _; go_big_quiet_step (fail))
            refine wpQuiet_nil ?_
            clear n0 n1 n2 n3 n4 n5 n6 n7 n8 n9 n10 n11 n12 n13 n14 n15 n16 n17 n18 n19 hne
            refine wpSeqK_step (fun K hK => ?_)
            go_simp
            refine (HBX.out _ _ _ hxd).mono ?_
            rintro e w14 ⟨rfl, hb14⟩
            have HS14 := Lib.hid (HS13.out.trans (hb14.mono HS13.out.size))
            have hw14 := hw13.trans (hb14.mono hw13.size)
            have G14 := Lib.hid (box_step hb14 G13.out)
            replace gc := box_cells G14.out
            replace gf := box_frozen G14.out
            have X14 := Lib.hid (box_step hb14 X13.out)
            replace xc := box_cells X14.out
            replace xf := box_frozen X14.out
            replace hxd := hxd.below hb14
            refine hK.out _ _ (fun _ => HS14.out) ?_
            clear hK K
            refine wpSeqK_step (fun K hK => ?_)
            go_simp
            refine (HBD.out _ _ _ (Hda.out.below hw14)).mono ?_
            rintro e w15 ⟨rfl, hb15⟩
            have HS15 := Lib.hid (HS14.out.trans (hb15.mono HS14.out.size))
            have hw15 := hw14.trans (hb15.mono hw14.size)
            have G15 := Lib.hid (box_step hb15 G14.out)
            replace gc := box_cells G15.out
            replace gf := box_frozen G15.out
            have X15 := Lib.hid (box_step hb15 X14.out)
            replace xc := box_cells X15.out
            replace xf := box_frozen X15.out
            replace hxd := hxd.below hb15
            refine hK.out _ _ (fun _ => HS15.out) ?_
            clear hK K
            refine wpSeqK_step (fun K hK => ?_)
            go_simp
            refine hK.out _ _ (fun _ => HS15.out) ?_
            clear hK K
            refine wpSeqK_step (fun K hK => ?_)
            go_simp
            refine hK.out _ _ (fun _ => HS15.out) ?_
            clear hK K
            refine wpSeqK_step (fun K hK => ?_)
            go_simp
            refine hK.out _ _ (fun _ => HS15.out) ?_
            clear hK K
            refine wpSeqK_step (fun K hK => ?_)
            go_simp
            refine (wakes_any _).mono ?_
            rintro e w16 ⟨rfl, hb16⟩
            have HS16 := Lib.hid (HS15.out.trans (hb16.mono HS15.out.size))
            have hw16 := hw15.trans (hb16.mono hw15.size)
            have G16 := Lib.hid (box_step hb16 G15.out)
            replace gc := box_cells G16.out
            replace gf := box_frozen G16.out
            have X16 := Lib.hid (box_step hb16 X15.out)
            replace xc := box_cells X16.out
            replace xf := box_frozen X16.out
            replace hxd := hxd.below hb16
            refine hK.out _ _ (fun _ => HS16.out) ?_
            clear hK K
            refine wpSeqK_step (fun K hK => ?_)
            go_simp
            refine hK.out _ _ (fun _ => HS16.out) ?_
            clear hK K
            refine wpSeqK_step (fun K hK => ?_)
            go_simp
            refine hK.out _ _ (fun _ => HS16.out) ?_
            clear hK K
            refine wpSeqK_nil ?_
            refine wpPh_nil ?_
            refine NoPanic.normal ?_
            go_wp2
            go_ret
            exact ⟨rfl, hw16⟩
      · have hfn : (faultD X != 0) = true := by simpa using hfx
        generalize faultD X = F at *
        clear hfx
        go_wp2_with fail
        refine (HFX.out _ _ _ hxd).mono ?_
        rintro e w6 ⟨rfl, hb6⟩
        have hw6 := hwb.trans (hb6.mono hwb.size)
        have G6 := Lib.hid (box_step hb6 Gb.out)
        replace gc := box_cells G6.out
        replace gf := box_frozen G6.out
        have X6 := Lib.hid (box_step hb6 Xb.out)
        replace xc := box_cells X6.out
        replace xf := box_frozen X6.out
        replace hxd := hxd.below hb6
        go_wp2_with fail
        refine (wakes_any _).mono ?_
        rintro e w7 ⟨rfl, hb7⟩
        have hw7 := hw6.trans (hb7.mono hw6.size)
        have G7 := Lib.hid (box_step hb7 G6.out)
        replace gc := box_cells G7.out
        replace gf := box_frozen G7.out
        have X7 := Lib.hid (box_step hb7 X6.out)
        replace xc := box_cells X7.out
        replace xf := box_frozen X7.out
        replace hxd := hxd.below hb7
        go_wp2
        go_ret
        exact ⟨rfl, hw7⟩
theorem Cut_law (d : DDay) (u z : Value) (p q lo hi y : Nat) (w : World) (hda : DayAt w u z d) (hp : p < 256) (hq : q < 256) (hlo : lo < 65536) (hhi : hi < 65536) (hy : y < 65536) :
    Calls Try.prog 4 #[.agg #[.int .i64 d.law.piece, .int .i64 d.law.drive, .int .i64 d.law.spread, .int .i64 d.law.brk, .int .i64 d.law.on, .int .i64 d.law.off, .int .i64 d.law.least, .int .i64 d.law.pieces, u, z], .int .u8 (p : Int), .int .u8 (q : Int), .int .u16 (lo : Int), .int .u16 (hi : Int), .int .u16 (y : Int)] w (Gives w (.bool true)) := by
  cases hl : readyB d with
  | false => exact Cut_dark d u z p q lo hi y w hda hp hq hlo hhi hy hl
  | true =>
    by_cases hs : segN d.blocks = 0
    · exact Cut_none d u z p q lo hi y w hda hp hq hlo hhi hy hl hs
    · by_cases hs7 : 7 < segN d.blocks
      · exact Cut_many d u z p q lo hi y w hda hp hq hlo hhi hy hl hs7
      · exact Cut_main d u z p q lo hi y w hda hp hq hlo hhi hy hl (by omega) (by omega)
end Go.Proofs.Ytllobkhdeahgpaa
