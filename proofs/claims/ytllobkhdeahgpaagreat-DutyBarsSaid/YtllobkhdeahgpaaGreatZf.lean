import Derived.Test.YtllobkhdeahgpaaGreatZe
set_option linter.unusedVariables false
set_option linter.unusedSimpArgs false
namespace Go.Proofs.YtllobkhdeahgpaaGreat
open Go Go.Proofs Go.RowKit

/-! ### DutyBars -/
/-- Has one of the first k legal duties a segment? -/
def anyK (d : DDay) (s k : Nat) : Bool := ((legalDs d).take k).any fun l => decide (s ∈ l)
theorem anyK_step {d : DDay} {s k : Nat} {l : List Nat} (h : (legalDs d)[k]? = some l) : anyK d s (k + 1) = (anyK d s k || decide (s ∈ l)) := by
  have e : (legalDs d).take (k + 1) = (legalDs d).take k ++ [l] := by
    rw [List.take_add_one, h]; rfl
  unfold anyK
  rw [e, List.any_append]
  simp
theorem anyK_all {d : DDay} (hd : DayOk d) {s : Nat} (hs : s < segN d.blocks) : anyK d s (legalDs d).length = legalL d [s] := by
  unfold anyK
  rw [List.take_length, Bool.eq_iff_iff, List.any_eq_true]
  constructor
  · rintro ⟨l, hl, h⟩
    obtain ⟨x, h0, hx, rfl, hlx⟩ := mem_legalDs.1 hl
    exact legal_single hd (isDuty_bits hx h0) hlx (of_decide_eq_true h)
  · intro h
    have hp : (1 <<< s) < 2 ^ segN d.blocks := by
      rw [Nat.one_shiftLeft]
      exact Nat.pow_lt_pow_right (by omega) hs
    have h0 : (1 <<< s) ≠ 0 := by
      rw [Nat.one_shiftLeft]
      exact Nat.ne_of_gt (Nat.two_pow_pos s)
    refine ⟨[s], mem_legalDs.2 ⟨1 <<< s, h0, hp, (bits_one hs).symm, ?_⟩, by simp⟩
    show legalL d (bitsL (segN d.blocks) (1 <<< s)) = true
    rw [bits_one hs]
    exact h
def barQ (d : DDay) (k : Nat) : List Nat := (List.range k).filter fun s => !legalL d [s]
theorem barQ_step (d : DDay) (k : Nat) : barQ d (k + 1) = barQ d k ++ if legalL d [k] then [] else [k] := by
  unfold barQ
  rw [List.range_succ, List.filter_append]
  congr 1
  cases h : legalL d [k] <;> simp [h]
theorem barQ_len (d : DDay) (k : Nat) : (barQ d k).length ≤ k := by
  unfold barQ
  exact Nat.le_trans (List.length_filter_le _ _) (by simp)
theorem barQ_all (d : DDay) : barQ d (segN d.blocks) = barredL d := rfl
set_option maxRecDepth 100000 in
set_option maxHeartbeats 800000 in
theorem Bars_thick (d : DDay) (u z : Value) (w : World) (hda : DayAt w u z d) (hl : thinD d = false) :
    Calls Tryz.prog 6 #[.agg #[.int .i64 d.law.piece, .int .i64 d.law.drive, .int .i64 d.law.spread, .int .i64 d.law.brk, .int .i64 d.law.on, .int .i64 d.law.off, .int .i64 d.law.least, .int .i64 d.law.pieces, u, z]] w (Gives w (.bool true)) := by
  obtain ⟨A1, c1, rfl, _, _⟩ := hda.blocks.form
  obtain ⟨A2, c2, rfl, _, _⟩ := hda.walk.form
  have hw0 : Below w.heap.size w (w.alloc (.cells #[.int .i64 d.law.piece, .int .i64 d.law.drive, .int .i64 d.law.spread, .int .i64 d.law.brk, .int .i64 d.law.on, .int .i64 d.law.off, .int .i64 d.law.least, .int .i64 d.law.pieces, .slice A1 d.blocks.length c1, .slice A2 d.walk.length c2] 27)) := (Below.refl _ _).alloc (Nat.le_refl _) _
  have G0 := Lib.hid (heap_alloc_new w (.cells #[.int .i64 d.law.piece, .int .i64 d.law.drive, .int .i64 d.law.spread, .int .i64 d.law.brk, .int .i64 d.law.on, .int .i64 d.law.off, .int .i64 d.law.least, .int .i64 d.law.pieces, .slice A1 d.blocks.length c1, .slice A2 d.walk.length c2] 27 (0, 0)))
  have Hda := Lib.hid hda
  have Hl := Lib.hid hl
  clear hl
  clear hda
  go_enter Tryz.func6, Tryz.ntmps6
  have gc := box_cells G0.out
  have gf := box_frozen G0.out
  go_wp2_with fail
  refine (Gives.to Hl.out (Thin_any d _ _ _ (Hda.out.below hw0))).mono ?_
  rintro e w1 ⟨rfl, hb1⟩
  have hw1 := hw0.trans (hb1.mono hw0.size)
  have G1 := Lib.hid (box_step hb1 G0.out)
  replace gc := box_cells G1.out
  replace gf := box_frozen G1.out
  go_wp2_with fail
  refine (wakes_any _).mono ?_
  rintro e w2 ⟨rfl, hb2⟩
  have hw2 := hw1.trans (hb2.mono hw1.size)
  have G2 := Lib.hid (box_step hb2 G1.out)
  replace gc := box_cells G2.out
  replace gf := box_frozen G2.out
  go_wp2
  go_ret
  exact ⟨rfl, hw2⟩
set_option maxRecDepth 100000 in
set_option maxHeartbeats 1600000 in
theorem Bars_many (d : DDay) (u z : Value) (w : World) (hda : DayAt w u z d) (hl : thinD d = true) (hf : faultD d = 0) (hs : 6 < segN d.blocks) :
    Calls Tryz.prog 6 #[.agg #[.int .i64 d.law.piece, .int .i64 d.law.drive, .int .i64 d.law.spread, .int .i64 d.law.brk, .int .i64 d.law.on, .int .i64 d.law.off, .int .i64 d.law.least, .int .i64 d.law.pieces, u, z]] w (Gives w (.bool true)) := by
  have hm := thin_mild hl
  have hsI : (6 : Int) < (segN d.blocks : Int) := by omega
  have HF := Lib.hid hf
  obtain ⟨A1, c1, rfl, _, _⟩ := hda.blocks.form
  obtain ⟨A2, c2, rfl, _, _⟩ := hda.walk.form
  have hw0 : Below w.heap.size w (w.alloc (.cells #[.int .i64 d.law.piece, .int .i64 d.law.drive, .int .i64 d.law.spread, .int .i64 d.law.brk, .int .i64 d.law.on, .int .i64 d.law.off, .int .i64 d.law.least, .int .i64 d.law.pieces, .slice A1 d.blocks.length c1, .slice A2 d.walk.length c2] 27)) := (Below.refl _ _).alloc (Nat.le_refl _) _
  have G0 := Lib.hid (heap_alloc_new w (.cells #[.int .i64 d.law.piece, .int .i64 d.law.drive, .int .i64 d.law.spread, .int .i64 d.law.brk, .int .i64 d.law.on, .int .i64 d.law.off, .int .i64 d.law.least, .int .i64 d.law.pieces, .slice A1 d.blocks.length c1, .slice A2 d.walk.length c2] 27 (0, 0)))
  have Hda := Lib.hid hda
  have Hl := Lib.hid hl
  clear hl hf
  clear hda
  go_enter Tryz.func6, Tryz.ntmps6
  have gc := box_cells G0.out
  have gf := box_frozen G0.out
  go_wp2_with fail
  refine (Gives.to Hl.out (Thin_any d _ _ _ (Hda.out.below hw0))).mono ?_
  rintro e w1 ⟨rfl, hb1⟩
  have hw1 := hw0.trans (hb1.mono hw0.size)
  have G1 := Lib.hid (box_step hb1 G0.out)
  replace gc := box_cells G1.out
  replace gf := box_frozen G1.out
  go_wp2_with fail
  refine (HF.out ▸ FaultR_any d _ _ _ (Hda.out.below hw1) hm).mono ?_
  rintro e w2 ⟨rfl, hb2⟩
  have hw2 := hw1.trans (hb2.mono hw1.size)
  have G2 := Lib.hid (box_step hb2 G1.out)
  replace gc := box_cells G2.out
  replace gf := box_frozen G2.out
  go_wp2_with fail
  refine (Segments_any d _ _ _ (Hda.out.below hw2) hm).mono ?_
  rintro e w3 ⟨rfl, hb3⟩
  have hw3 := hw2.trans (hb3.mono hw2.size)
  have G3 := Lib.hid (box_step hb3 G2.out)
  replace gc := box_cells G3.out
  replace gf := box_frozen G3.out
  go_wp2_with fail
  refine (wakes_any _).mono ?_
  rintro e w4 ⟨rfl, hb4⟩
  have hw4 := hw3.trans (hb4.mono hw3.size)
  have G4 := Lib.hid (box_step hb4 G3.out)
  replace gc := box_cells G4.out
  replace gf := box_frozen G4.out
  go_wp2
  go_ret
  exact ⟨rfl, hw4⟩
set_option maxRecDepth 100000 in
set_option maxHeartbeats 1600000 in
theorem Bars_fault (d : DDay) (u z : Value) (w : World) (hda : DayAt w u z d) (hl : thinD d = true) (hf : faultD d ≠ 0) :
    Calls Tryz.prog 6 #[.agg #[.int .i64 d.law.piece, .int .i64 d.law.drive, .int .i64 d.law.spread, .int .i64 d.law.brk, .int .i64 d.law.on, .int .i64 d.law.off, .int .i64 d.law.least, .int .i64 d.law.pieces, u, z]] w (Gives w (.bool true)) := by
  have hm := thin_mild hl
  have Hne := Lib.hid (show (faultD d != 0) = true by simpa using hf)
  generalize hF : faultD d = F at *
  have HF := Lib.hid hF
  clear hF
  have hF0 : (F == 0) = false := by simpa using hf
  have hF1 : (F != 0) = true := by simpa using hf
  obtain ⟨A1, c1, rfl, _, _⟩ := hda.blocks.form
  obtain ⟨A2, c2, rfl, _, _⟩ := hda.walk.form
  have hw0 : Below w.heap.size w (w.alloc (.cells #[.int .i64 d.law.piece, .int .i64 d.law.drive, .int .i64 d.law.spread, .int .i64 d.law.brk, .int .i64 d.law.on, .int .i64 d.law.off, .int .i64 d.law.least, .int .i64 d.law.pieces, .slice A1 d.blocks.length c1, .slice A2 d.walk.length c2] 27)) := (Below.refl _ _).alloc (Nat.le_refl _) _
  have G0 := Lib.hid (heap_alloc_new w (.cells #[.int .i64 d.law.piece, .int .i64 d.law.drive, .int .i64 d.law.spread, .int .i64 d.law.brk, .int .i64 d.law.on, .int .i64 d.law.off, .int .i64 d.law.least, .int .i64 d.law.pieces, .slice A1 d.blocks.length c1, .slice A2 d.walk.length c2] 27 (0, 0)))
  have Hda := Lib.hid hda
  have Hl := Lib.hid hl
  clear hl hf
  clear hda
  go_enter Tryz.func6, Tryz.ntmps6
  have gc := box_cells G0.out
  have gf := box_frozen G0.out
  go_wp2_with fail
  refine (Gives.to Hl.out (Thin_any d _ _ _ (Hda.out.below hw0))).mono ?_
  rintro e w1 ⟨rfl, hb1⟩
  have hw1 := hw0.trans (hb1.mono hw0.size)
  have G1 := Lib.hid (box_step hb1 G0.out)
  replace gc := box_cells G1.out
  replace gf := box_frozen G1.out
  go_wp2_with fail
  refine (HF.out ▸ FaultR_any d _ _ _ (Hda.out.below hw1) hm).mono ?_
  rintro e w2 ⟨rfl, hb2⟩
  have hw2 := hw1.trans (hb2.mono hw1.size)
  have G2 := Lib.hid (box_step hb2 G1.out)
  replace gc := box_cells G2.out
  replace gf := box_frozen G2.out
  go_wp2_with fail
  refine (DayC_any d _ _ _ (Hda.out.below hw2) hm).mono ?_
  rintro e w3 ⟨B13, B23, e13, e23, rfl, hd3, hb3⟩
  have hw3 := hw2.trans (hb3.mono hw2.size)
  have G3 := Lib.hid (box_step hb3 G2.out)
  replace gc := box_cells G3.out
  replace gf := box_frozen G3.out
  go_wp2_with fail
  refine (Barred_any d _ _ _ hd3 hm).mono ?_
  rintro e w4 ⟨hb4, hbf, _, _⟩
  have e1 := hbf (by rw [HF.out]; exact Hne.out)
  rw [HF.out] at e1
  subst e1
  clear hbf
  clear hd3
  have hw4 := hw3.trans (hb4.mono hw3.size)
  have G4 := Lib.hid (box_step hb4 G3.out)
  replace gc := box_cells G4.out
  replace gf := box_frozen G4.out
  go_wp2_with fail
  refine (HF.out ▸ fault_any d _ _ _ (Hda.out.below hw4) hm).mono ?_
  rintro e w5 ⟨rfl, hb5⟩
  have hw5 := hw4.trans (hb5.mono hw4.size)
  have G5 := Lib.hid (box_step hb5 G4.out)
  replace gc := box_cells G5.out
  replace gf := box_frozen G5.out
  go_wp2_with fail
  refine (wakes_any _).mono ?_
  rintro e w6 ⟨rfl, hb6⟩
  have hw6 := hw5.trans (hb6.mono hw5.size)
  have G6 := Lib.hid (box_step hb6 G5.out)
  replace gc := box_cells G6.out
  replace gf := box_frozen G6.out
  go_wp2
  go_ret
  exact ⟨rfl, hw6⟩
set_option maxRecDepth 100000 in
set_option maxHeartbeats 6400000 in
theorem Bars_none (d : DDay) (u z : Value) (w : World) (hda : DayAt w u z d) (hl : thinD d = true) (hf : faultD d = 0) (hs : segN d.blocks ≤ 6) (hB : barredL d = []) :
    Calls Tryz.prog 6 #[.agg #[.int .i64 d.law.piece, .int .i64 d.law.drive, .int .i64 d.law.spread, .int .i64 d.law.brk, .int .i64 d.law.on, .int .i64 d.law.off, .int .i64 d.law.least, .int .i64 d.law.pieces, u, z]] w (Gives w (.bool true)) := by
  have hm := thin_mild hl
  have hf' : (faultD d != 0) = false := by rw [hf]; rfl
  have Hok := Lib.hid (fault_ok hf')
  have Hf' := Lib.hid hf'
  have hsI : ¬ (6 : Int) < (segN d.blocks : Int) := by omega
  have HF := Lib.hid hf
  have HB := Lib.hid hB
  obtain ⟨i0, hi0, hz0, hz1, hz2⟩ := info_parts infoI
  clear hf hf' hB
  obtain ⟨A1, c1, rfl, _, _⟩ := hda.blocks.form
  obtain ⟨A2, c2, rfl, _, _⟩ := hda.walk.form
  have hw0 : Below w.heap.size w (w.alloc (.cells #[.int .i64 d.law.piece, .int .i64 d.law.drive, .int .i64 d.law.spread, .int .i64 d.law.brk, .int .i64 d.law.on, .int .i64 d.law.off, .int .i64 d.law.least, .int .i64 d.law.pieces, .slice A1 d.blocks.length c1, .slice A2 d.walk.length c2] 27)) := (Below.refl _ _).alloc (Nat.le_refl _) _
  have G0 := Lib.hid (heap_alloc_new w (.cells #[.int .i64 d.law.piece, .int .i64 d.law.drive, .int .i64 d.law.spread, .int .i64 d.law.brk, .int .i64 d.law.on, .int .i64 d.law.off, .int .i64 d.law.least, .int .i64 d.law.pieces, .slice A1 d.blocks.length c1, .slice A2 d.walk.length c2] 27 (0, 0)))
  have Hda := Lib.hid hda
  have Hl := Lib.hid hl
  clear hl
  clear hda
  go_enter Tryz.func6, Tryz.ntmps6
  have gc := box_cells G0.out
  have gf := box_frozen G0.out
  go_wp2_with fail
  refine (Gives.to Hl.out (Thin_any d _ _ _ (Hda.out.below hw0))).mono ?_
  rintro e w1 ⟨rfl, hb1⟩
  have hw1 := hw0.trans (hb1.mono hw0.size)
  have G1 := Lib.hid (box_step hb1 G0.out)
  replace gc := box_cells G1.out
  replace gf := box_frozen G1.out
  go_wp2_with fail
  refine (HF.out ▸ FaultR_any d _ _ _ (Hda.out.below hw1) hm).mono ?_
  rintro e w2 ⟨rfl, hb2⟩
  have hw2 := hw1.trans (hb2.mono hw1.size)
  have G2 := Lib.hid (box_step hb2 G1.out)
  replace gc := box_cells G2.out
  replace gf := box_frozen G2.out
  go_wp2_with fail
  refine (Segments_any d _ _ _ (Hda.out.below hw2) hm).mono ?_
  rintro e w3 ⟨rfl, hb3⟩
  have hw3 := hw2.trans (hb3.mono hw2.size)
  have G3 := Lib.hid (box_step hb3 G2.out)
  replace gc := box_cells G3.out
  replace gf := box_frozen G3.out
  go_wp2_with fail
  refine (DayC_any d _ _ _ (Hda.out.below hw3) hm).mono ?_
  rintro e w4 ⟨B14, B24, e14, e24, rfl, hd4, hb4⟩
  have hw4 := hw3.trans (hb4.mono hw3.size)
  have G4 := Lib.hid (box_step hb4 G3.out)
  replace gc := box_cells G4.out
  replace gf := box_frozen G4.out
  go_wp2_with fail
  refine (Barred_any d _ _ _ hd4 hm).mono ?_
  rintro e w5 ⟨hb5, _, hbn, _⟩
  obtain rfl := hbn Hf'.out HB.out
  clear hbn
  clear hd4
  have hw5 := hw4.trans (hb5.mono hw4.size)
  have G5 := Lib.hid (box_step hb5 G4.out)
  replace gc := box_cells G5.out
  replace gf := box_frozen G5.out
  go_wp2_with fail
  refine (HF.out ▸ fault_any d _ _ _ (Hda.out.below hw5) hm).mono ?_
  rintro e w6 ⟨rfl, hb6⟩
  have hw6 := hw5.trans (hb6.mono hw5.size)
  have G6 := Lib.hid (box_step hb6 G5.out)
  replace gc := box_cells G6.out
  replace gf := box_frozen G6.out
  go_wp2_with fail
  refine (LegalDuties_any d _ _ _ (Hda.out.below hw6) Hok.out).mono ?_
  rintro e w7 ⟨A5, c5, us, rfl, ho, hro, hb7⟩
  have hw7 := hw6.trans (hb7.mono hw6.size)
  have G7 := Lib.hid (box_step hb7 G6.out)
  replace gc := box_cells G7.out
  replace gf := box_frozen G7.out
  have HLL := Lib.hid (show (barredL d).length = 0 by rw [HB.out]; rfl)
  have Hr := Lib.hid (rows_of_own ho hro)
  have HDl := Lib.hid (show ((legalDs d).map natsI).length = (legalDs d).length by simp)
  rw [HDl.out] at Hr ⊢
  have HLD := legalDs_len (d := d) (by omega)
  clear ho hro
  go_wp2_with fail
  go_loopw [7, 8] (fun v s wr => ∃ (k : Nat) (A : Option Addr) (c : Nat), k ≤ segN d.blocks ∧ s = .int .i64 k ∧ v = .slice A (barQ d k).length c ∧ Below w7.heap.size w7 wr ∧ wr.ownsRow w7.heap.size 3 1 v (barQ d k).length ((natsI (barQ d k)).map (.int .i64))) (fun v s wr => segN d.blocks - (intOf s).toNat)
  case atStart => exact ⟨0, none, 0, by omega, rfl, rfl, Below.refl _ _, by simpa [natsI, barQ] using World.ownsRow_nil w7 w7.heap.size 3 1⟩
  case round =>
    obtain ⟨k, A, c, hk, rfl, rfl, hbr, hown⟩ := hrel
    obtain ⟨wo, rfl⟩ : ∃ wo : World, wo = wr := ⟨_, rfl⟩
    have Go := Lib.hid (box_step hbr G7.out)
    replace gc := box_cells Go.out
    replace gf := box_frozen Go.out
    have hwo := hw7.trans (hbr.mono hw7.size)
    have Hown := Lib.hid hown
    have Hseg := Lib.hid (Segments_any d _ _ wo (Hda.out.below hwo) hm)
    clear hown
    by_cases hlt : k < segN d.blocks
    · have hq1 : (k : Int) < (segN d.blocks : Int) := by omega
      have Hst := Lib.hid (barQ_step d k)
      have Hany := Lib.hid (anyK_all Hok.out hlt)
      have hle := barQ_len d k
      generalize hnb : (barQ d k).length = nb at *
      have Hnb := Lib.hid hnb
      clear hnb
      go_wp2_with fail
      refine Hseg.out.mono ?_
      rintro e w1q ⟨rfl, hb1q⟩
      have hbq := hbr.trans (hb1q.mono hbr.size)
      have hsq := hbq.size
      have Hrq := Lib.hid (Hr.out.below hbq)
      have Hownq := Lib.hid (own_below Hown.out hb1q)
      have Gq := Lib.hid (box_step hb1q Go.out)
      replace gc := box_cells Gq.out
      replace gf := box_frozen Gq.out
      clear Hseg
      go_wp2_with fail
      go_loop [9, 10] (fun f i => ∃ m : Nat, m ≤ (legalDs d).length ∧ i = .int .i64 m ∧ f = .bool (anyK d k m)) (fun f i => (legalDs d).length - (intOf i).toNat)
      case atStart => exact ⟨0, by omega, rfl, rfl⟩
      case round =>
        obtain ⟨m, hm2, rfl, rfl⟩ := hrel
        by_cases hlm : m < (legalDs d).length
        · have hq2 : (m : Int) < ((legalDs d).length : Int) := by omega
          obtain ⟨b, o, y, yv, rfl, hy, cy, hny, _⟩ := Hrq.out.at_ (k := m) (by rw [HDl.out]; exact hlm)
          rw [List.getElem?_map] at hy
          obtain ⟨D, hD, rfl⟩ := Option.map_eq_some_iff.1 hy
          have Hs2 := Lib.hid (anyK_step (s := k) hD)
          have Hhas := Lib.hid (show Calls Tryz.prog 35 #[yv, .int .i64 (k : Int)] w1q (Same w1q (.bool (decide (k ∈ D)))) from Same.to (by simp only [mem_natsI]) (Has_any _ _ (k : Int) _ hny))
          obtain ⟨AY, cY, rfl, _, _⟩ := hny.form
          generalize decide (k ∈ D) = HD at *
          generalize (natsI D).length = nD at *
          generalize anyK d k m = X at *
          clear hy hD hny
          cases X with
          | true =>
            go_wp2_with fail
            go_round
            case rel => exact ⟨m + 1, by omega, by go_num, by rw [Hs2.out]; rfl⟩
            case measure => simp [intOf]; omega
          | false =>
            go_wp2_with fail
            refine Hhas.out.mono ?_
            rintro e w2q ⟨rfl, rfl⟩
            go_wp2_with fail
            go_round
            case rel => exact ⟨m + 1, by omega, by go_num, by rw [Hs2.out]; rfl⟩
            case measure => simp [intOf]; omega
        · obtain rfl : m = (legalDs d).length := by omega
          have hq2 : ¬ ((legalDs d).length : Int) < ((legalDs d).length : Int) := by omega
          rw [Hany.out]
          cases hL : legalL d [k] with
          | true =>
            have Hs3 := Lib.hid (show barQ d (k + 1) = barQ d k by rw [Hst.out, hL]; simp)
            clear hL
            go_wp2_with fail
            go_roundw
            case rel => exact ⟨k + 1, A, c, by omega, by go_num, by rw [Hs3.out, Hnb.out], hbq, by rw [Hs3.out, Hnb.out]; exact Hownq.out⟩
            case measure => simp [intOf]; omega
          | false =>
            have Hs3 := Lib.hid (show barQ d (k + 1) = barQ d k ++ [k] by rw [Hst.out, hL]; simp)
            clear hL
            go_wp2_with (at_builtin; go_loud (refine wpList_append_src _ rfl (.tmp 71) (.tmp 73) 28 rfl w7.heap.size 3 i0 _ 1 8 Tryz.underlying28 hi0 hz0 hz1 hz2 rfl (by omega) _ nb _ rfl (Hownq.out.alloc _) (some ⟨w1q.heap.size, 0, none⟩) 1 1 [.int .i64 (k : Int)] rfl (src_new _ _ _ _ _ rfl) (by simp [Value.oneCell']) (by simp [maxLen]; omega) (by omega) (by simp; omega) ?_; intro v1 w1 hown1 hg1 hat1; have Hg1 := Lib.hid hg1; obtain ⟨AA1, cc1, rfl⟩ := own_form hown1; have Hown1 := Lib.hid hown1; clear hown1 hg1 hat1))
            go_roundw
            case rel =>
              refine ⟨k + 1, AA1, cc1, by omega, by go_num, by rw [Hs3.out]; simp [Hnb.out], (hbq.alloc hsq _).grown Hg1.out (by simp; omega) fun q hq => (Hownq.out.lt q hq).1, ?_⟩
              rw [Hs3.out]
              have := Hown1.out
              simpa [natsI, Hnb.out] using this
            case measure => simp [intOf]; omega
    · obtain rfl : k = segN d.blocks := by omega
      have hq1 : ¬ (segN d.blocks : Int) < (segN d.blocks : Int) := by omega
      rw [barQ_all] at Hown ⊢
      have Hnu := Lib.hid (nums_of_own (K := .i64) Hown.out)
      rw [HLL.out] at Hnu ⊢
      clear Hown
      go_wp2_with fail
      refine Hseg.out.mono ?_
      rintro e w1q ⟨rfl, hb1q⟩
      have hwq := hwo.trans (hb1q.mono hwo.size)
      clear Hseg
      go_wp2_with fail
      refine (wakes_any _).mono ?_
      rintro e wz ⟨rfl, hbz⟩
      go_wp2
      go_ret
      exact ⟨rfl, hwq.trans (hbz.mono hwq.size)⟩
set_option maxRecDepth 100000 in
set_option maxHeartbeats 6400000 in
theorem Bars_some (d : DDay) (u z : Value) (w : World) (hda : DayAt w u z d) (hl : thinD d = true) (hf : faultD d = 0) (hs : segN d.blocks ≤ 6) (hB : barredL d ≠ []) :
    Calls Tryz.prog 6 #[.agg #[.int .i64 d.law.piece, .int .i64 d.law.drive, .int .i64 d.law.spread, .int .i64 d.law.brk, .int .i64 d.law.on, .int .i64 d.law.off, .int .i64 d.law.least, .int .i64 d.law.pieces, u, z]] w (Gives w (.bool true)) := by
  have hm := thin_mild hl
  have hf' : (faultD d != 0) = false := by rw [hf]; rfl
  have Hok := Lib.hid (fault_ok hf')
  have Hf' := Lib.hid hf'
  have hsI : ¬ (6 : Int) < (segN d.blocks : Int) := by omega
  have HF := Lib.hid hf
  have HB := Lib.hid hB
  obtain ⟨i0, hi0, hz0, hz1, hz2⟩ := info_parts infoI
  clear hf hf' hB
  obtain ⟨A1, c1, rfl, _, _⟩ := hda.blocks.form
  obtain ⟨A2, c2, rfl, _, _⟩ := hda.walk.form
  have hw0 : Below w.heap.size w (w.alloc (.cells #[.int .i64 d.law.piece, .int .i64 d.law.drive, .int .i64 d.law.spread, .int .i64 d.law.brk, .int .i64 d.law.on, .int .i64 d.law.off, .int .i64 d.law.least, .int .i64 d.law.pieces, .slice A1 d.blocks.length c1, .slice A2 d.walk.length c2] 27)) := (Below.refl _ _).alloc (Nat.le_refl _) _
  have G0 := Lib.hid (heap_alloc_new w (.cells #[.int .i64 d.law.piece, .int .i64 d.law.drive, .int .i64 d.law.spread, .int .i64 d.law.brk, .int .i64 d.law.on, .int .i64 d.law.off, .int .i64 d.law.least, .int .i64 d.law.pieces, .slice A1 d.blocks.length c1, .slice A2 d.walk.length c2] 27 (0, 0)))
  have Hda := Lib.hid hda
  have Hl := Lib.hid hl
  clear hl
  clear hda
  go_enter Tryz.func6, Tryz.ntmps6
  have gc := box_cells G0.out
  have gf := box_frozen G0.out
  go_wp2_with fail
  refine (Gives.to Hl.out (Thin_any d _ _ _ (Hda.out.below hw0))).mono ?_
  rintro e w1 ⟨rfl, hb1⟩
  have hw1 := hw0.trans (hb1.mono hw0.size)
  have G1 := Lib.hid (box_step hb1 G0.out)
  replace gc := box_cells G1.out
  replace gf := box_frozen G1.out
  go_wp2_with fail
  refine (HF.out ▸ FaultR_any d _ _ _ (Hda.out.below hw1) hm).mono ?_
  rintro e w2 ⟨rfl, hb2⟩
  have hw2 := hw1.trans (hb2.mono hw1.size)
  have G2 := Lib.hid (box_step hb2 G1.out)
  replace gc := box_cells G2.out
  replace gf := box_frozen G2.out
  go_wp2_with fail
  refine (Segments_any d _ _ _ (Hda.out.below hw2) hm).mono ?_
  rintro e w3 ⟨rfl, hb3⟩
  have hw3 := hw2.trans (hb3.mono hw2.size)
  have G3 := Lib.hid (box_step hb3 G2.out)
  replace gc := box_cells G3.out
  replace gf := box_frozen G3.out
  go_wp2_with fail
  refine (DayC_any d _ _ _ (Hda.out.below hw3) hm).mono ?_
  rintro e w4 ⟨B14, B24, e14, e24, rfl, hd4, hb4⟩
  have hw4 := hw3.trans (hb4.mono hw3.size)
  have G4 := Lib.hid (box_step hb4 G3.out)
  replace gc := box_cells G4.out
  replace gf := box_frozen G4.out
  go_wp2_with fail
  refine (Barred_any d _ _ _ hd4 hm).mono ?_
  rintro e w5 ⟨hb5, _, _, hbs⟩
  obtain ⟨AT, cT, rfl, hT⟩ := hbs Hf'.out HB.out
  have HT := Lib.hid hT
  clear hbs hT
  clear hd4
  have hw5 := hw4.trans (hb5.mono hw4.size)
  have G5 := Lib.hid (box_step hb5 G4.out)
  replace gc := box_cells G5.out
  replace gf := box_frozen G5.out
  go_wp2_with fail
  refine (HF.out ▸ fault_any d _ _ _ (Hda.out.below hw5) hm).mono ?_
  rintro e w6 ⟨rfl, hb6⟩
  have hw6 := hw5.trans (hb6.mono hw5.size)
  have G6 := Lib.hid (box_step hb6 G5.out)
  replace gc := box_cells G6.out
  replace gf := box_frozen G6.out
  go_wp2_with fail
  refine (LegalDuties_any d _ _ _ (Hda.out.below hw6) Hok.out).mono ?_
  rintro e w7 ⟨A5, c5, us, rfl, ho, hro, hb7⟩
  have hw7 := hw6.trans (hb7.mono hw6.size)
  have G7 := Lib.hid (box_step hb7 G6.out)
  replace gc := box_cells G7.out
  replace gf := box_frozen G7.out
  have HT2 := Lib.hid (HT.out.below (hb6.trans (hb7.mono hb6.size)))
  have hLp : 0 < (barredL d).length := List.length_pos_iff.2 HB.out
  generalize hLL : (barredL d).length = LL at *
  have HLL := Lib.hid hLL
  have hL0 : ((LL : Int) == 0) = false := by rw [Bool.eq_false_iff]; simp only [ne_eq, beq_iff_eq]; omega
  clear hLL
  have Hr := Lib.hid (rows_of_own ho hro)
  have HDl := Lib.hid (show ((legalDs d).map natsI).length = (legalDs d).length by simp)
  rw [HDl.out] at Hr ⊢
  have HLD := legalDs_len (d := d) (by omega)
  clear ho hro
  go_wp2_with fail
  go_loopw [7, 8] (fun v s wr => ∃ (k : Nat) (A : Option Addr) (c : Nat), k ≤ segN d.blocks ∧ s = .int .i64 k ∧ v = .slice A (barQ d k).length c ∧ Below w7.heap.size w7 wr ∧ wr.ownsRow w7.heap.size 3 1 v (barQ d k).length ((natsI (barQ d k)).map (.int .i64))) (fun v s wr => segN d.blocks - (intOf s).toNat)
  case atStart => exact ⟨0, none, 0, by omega, rfl, rfl, Below.refl _ _, by simpa [natsI, barQ] using World.ownsRow_nil w7 w7.heap.size 3 1⟩
  case round =>
    obtain ⟨k, A, c, hk, rfl, rfl, hbr, hown⟩ := hrel
    obtain ⟨wo, rfl⟩ : ∃ wo : World, wo = wr := ⟨_, rfl⟩
    have Go := Lib.hid (box_step hbr G7.out)
    replace gc := box_cells Go.out
    replace gf := box_frozen Go.out
    have hwo := hw7.trans (hbr.mono hw7.size)
    have Hown := Lib.hid hown
    have Hseg := Lib.hid (Segments_any d _ _ wo (Hda.out.below hwo) hm)
    clear hown
    by_cases hlt : k < segN d.blocks
    · have hq1 : (k : Int) < (segN d.blocks : Int) := by omega
      have Hst := Lib.hid (barQ_step d k)
      have Hany := Lib.hid (anyK_all Hok.out hlt)
      have hle := barQ_len d k
      generalize hnb : (barQ d k).length = nb at *
      have Hnb := Lib.hid hnb
      clear hnb
      go_wp2_with fail
      refine Hseg.out.mono ?_
      rintro e w1q ⟨rfl, hb1q⟩
      have hbq := hbr.trans (hb1q.mono hbr.size)
      have hsq := hbq.size
      have Hrq := Lib.hid (Hr.out.below hbq)
      have Hownq := Lib.hid (own_below Hown.out hb1q)
      have Gq := Lib.hid (box_step hb1q Go.out)
      replace gc := box_cells Gq.out
      replace gf := box_frozen Gq.out
      clear Hseg
      go_wp2_with fail
      go_loop [9, 10] (fun f i => ∃ m : Nat, m ≤ (legalDs d).length ∧ i = .int .i64 m ∧ f = .bool (anyK d k m)) (fun f i => (legalDs d).length - (intOf i).toNat)
      case atStart => exact ⟨0, by omega, rfl, rfl⟩
      case round =>
        obtain ⟨m, hm2, rfl, rfl⟩ := hrel
        by_cases hlm : m < (legalDs d).length
        · have hq2 : (m : Int) < ((legalDs d).length : Int) := by omega
          obtain ⟨b, o, y, yv, rfl, hy, cy, hny, _⟩ := Hrq.out.at_ (k := m) (by rw [HDl.out]; exact hlm)
          rw [List.getElem?_map] at hy
          obtain ⟨D, hD, rfl⟩ := Option.map_eq_some_iff.1 hy
          have Hs2 := Lib.hid (anyK_step (s := k) hD)
          have Hhas := Lib.hid (show Calls Tryz.prog 35 #[yv, .int .i64 (k : Int)] w1q (Same w1q (.bool (decide (k ∈ D)))) from Same.to (by simp only [mem_natsI]) (Has_any _ _ (k : Int) _ hny))
          obtain ⟨AY, cY, rfl, _, _⟩ := hny.form
          generalize decide (k ∈ D) = HD at *
          generalize (natsI D).length = nD at *
          generalize anyK d k m = X at *
          clear hy hD hny
          cases X with
          | true =>
            go_wp2_with fail
            go_round
            case rel => exact ⟨m + 1, by omega, by go_num, by rw [Hs2.out]; rfl⟩
            case measure => simp [intOf]; omega
          | false =>
            go_wp2_with fail
            refine Hhas.out.mono ?_
            rintro e w2q ⟨rfl, rfl⟩
            go_wp2_with fail
            go_round
            case rel => exact ⟨m + 1, by omega, by go_num, by rw [Hs2.out]; rfl⟩
            case measure => simp [intOf]; omega
        · obtain rfl : m = (legalDs d).length := by omega
          have hq2 : ¬ ((legalDs d).length : Int) < ((legalDs d).length : Int) := by omega
          rw [Hany.out]
          cases hL : legalL d [k] with
          | true =>
            have Hs3 := Lib.hid (show barQ d (k + 1) = barQ d k by rw [Hst.out, hL]; simp)
            clear hL
            go_wp2_with fail
            go_roundw
            case rel => exact ⟨k + 1, A, c, by omega, by go_num, by rw [Hs3.out, Hnb.out], hbq, by rw [Hs3.out, Hnb.out]; exact Hownq.out⟩
            case measure => simp [intOf]; omega
          | false =>
            have Hs3 := Lib.hid (show barQ d (k + 1) = barQ d k ++ [k] by rw [Hst.out, hL]; simp)
            clear hL
            go_wp2_with (at_builtin; go_loud (refine wpList_append_src _ rfl (.tmp 71) (.tmp 73) 28 rfl w7.heap.size 3 i0 _ 1 8 Tryz.underlying28 hi0 hz0 hz1 hz2 rfl (by omega) _ nb _ rfl (Hownq.out.alloc _) (some ⟨w1q.heap.size, 0, none⟩) 1 1 [.int .i64 (k : Int)] rfl (src_new _ _ _ _ _ rfl) (by simp [Value.oneCell']) (by simp [maxLen]; omega) (by omega) (by simp; omega) ?_; intro v1 w1 hown1 hg1 hat1; have Hg1 := Lib.hid hg1; obtain ⟨AA1, cc1, rfl⟩ := own_form hown1; have Hown1 := Lib.hid hown1; clear hown1 hg1 hat1))
            go_roundw
            case rel =>
              refine ⟨k + 1, AA1, cc1, by omega, by go_num, by rw [Hs3.out]; simp [Hnb.out], (hbq.alloc hsq _).grown Hg1.out (by simp; omega) fun q hq => (Hownq.out.lt q hq).1, ?_⟩
              rw [Hs3.out]
              have := Hown1.out
              simpa [natsI, Hnb.out] using this
            case measure => simp [intOf]; omega
    · obtain rfl : k = segN d.blocks := by omega
      have hq1 : ¬ (segN d.blocks : Int) < (segN d.blocks : Int) := by omega
      rw [barQ_all] at Hown ⊢
      have Hnu := Lib.hid (nums_of_own (K := .i64) Hown.out)
      rw [HLL.out] at Hnu ⊢
      clear Hown
      go_wp2_with fail
      refine Hseg.out.mono ?_
      rintro e w1q ⟨rfl, hb1q⟩
      have hwq := hwo.trans (hb1q.mono hwo.size)
      clear Hseg
      have Hin := Lib.hid (Gives.to (show decide (natsI (barredL d) = natsI (barredL d)) = true by simp) (ints_any _ _ _ _ w1q (HT2.out.below (hbr.trans (hb1q.mono hbr.size))) (Hnu.out.below hb1q)))
      go_wp2_with fail
      refine Hin.out.mono ?_
      rintro e w2q ⟨rfl, hb2q⟩
      have hwr := hwq.trans (hb2q.mono hwq.size)
      go_wp2_with fail
      refine (wakes_any _).mono ?_
      rintro e wz ⟨rfl, hbz⟩
      go_wp2
      go_ret
      exact ⟨rfl, hwr.trans (hbz.mono hwr.size)⟩
theorem Bars_law (d : DDay) (u z : Value) (w : World) (hda : DayAt w u z d) :
    Calls Tryz.prog 6 #[.agg #[.int .i64 d.law.piece, .int .i64 d.law.drive, .int .i64 d.law.spread, .int .i64 d.law.brk, .int .i64 d.law.on, .int .i64 d.law.off, .int .i64 d.law.least, .int .i64 d.law.pieces, u, z]] w (Gives w (.bool true)) := by
  cases hl : thinD d with
  | false => exact Bars_thick d u z w hda hl
  | true =>
    by_cases hf : faultD d = 0
    · by_cases hs : 6 < segN d.blocks
      · exact Bars_many d u z w hda hl hf hs
      have hs' : segN d.blocks ≤ 6 := by omega
      by_cases hB : barredL d = []
      · exact Bars_none d u z w hda hl hf hs' hB
      · exact Bars_some d u z w hda hl hf hs' hB
    · exact Bars_fault d u z w hda hl hf
end Go.Proofs.YtllobkhdeahgpaaGreat
