import Derived.Test.YtllobkhdeahgpaaGreatZ7
set_option linter.unusedVariables false
set_option linter.unusedSimpArgs false
namespace Go.Proofs.YtllobkhdeahgpaaGreat
open Go Go.Proofs Go.RowKit

/-! ### Obeys -/
theorem restsP_iff {d : DDay} {tb te : Nat → Nat → Int} {ps : List Pc} {m : Int} : (∀ n ∈ restsP d tb te ps, m ≤ n) ↔ ∀ k p q, ps[k]? = some p → ps[k + 1]? = some q → m ≤ tb q.b q.fr - te p.b p.to - gapP d p q := by
  constructor
  · intro h k p q hp hq
    exact h _ (List.mem_of_getElem? (restsP_get (d := d) hp hq))
  · intro h n hn
    obtain ⟨k, hk, rfl⟩ := List.getElem_of_mem hn
    have hl := hk
    rw [restsP_len] at hl
    have hp : ps[k]? = some ps[k] := List.getElem?_eq_getElem (by omega)
    have hq : ps[k + 1]? = some ps[k + 1] := List.getElem?_eq_getElem (by omega)
    have e := restsP_get (d := d) (tb := tb) (te := te) hp hq
    rw [List.getElem?_eq_getElem hk, Option.some.injEq] at e
    rw [e]
    exact h k _ _ hp hq
structure ObSt (d : DDay) (tb te : Nat → Nat → Int) (ps : List Pc) (k : Nat) : Prop where
  dur : ∀ i p, i < k → ps[i]? = some p → te p.b p.to - tb p.b p.fr ≤ d.law.piece
  rest : ∀ i p q, i + 1 < k → ps[i]? = some p → ps[i + 1]? = some q → d.law.brk + gapP d p q ≤ tb q.b q.fr - te p.b p.to
set_option maxRecDepth 100000 in
set_option maxHeartbeats 6400000 in
theorem Obeys_any (d : DDay) (u z v vb ve : Value) (ps : List Pc) (B E : List (List Int)) (w : World) (hda : DayAt w u z d) (hd : DayOk d) (hv : PcsAt w v ps) (hb : RowsAt w vb B) (he : RowsAt w ve E) (hB : SmallT B) (hE : SmallT E)
    (hps : ∀ p ∈ ps, InTab B p.b p.fr ∧ InTab E p.b p.to) (hin : ∀ p ∈ ps, InDay d p.b p.fr ∧ InDay d p.b p.to) (hl : ps.length ≤ 100) (h0 : ps ≠ []) :
    Calls Tryz.prog 43 #[.agg #[.int .i64 d.law.piece, .int .i64 d.law.drive, .int .i64 d.law.spread, .int .i64 d.law.brk, .int .i64 d.law.on, .int .i64 d.law.off, .int .i64 d.law.least, .int .i64 d.law.pieces, u, z], v, vb, ve] w (Gives w (.bool (obeysB d (tabT B) (tabT E) ps))) := by
  obtain ⟨A1, c1, rfl, _, _⟩ := hda.blocks.form
  obtain ⟨A2, c2, rfl, _, _⟩ := hda.walk.form
  obtain ⟨A3, c3, rfl, hc3, hm3⟩ := hv.form
  obtain ⟨A4, c4, rfl, hc4, hm4⟩ := hb.form
  obtain ⟨A5, c5, rfl, hc5, hm5⟩ := he.form
  have hw0 : Below w.heap.size w (w.alloc (.cells #[.int .i64 d.law.piece, .int .i64 d.law.drive, .int .i64 d.law.spread, .int .i64 d.law.brk, .int .i64 d.law.on, .int .i64 d.law.off, .int .i64 d.law.least, .int .i64 d.law.pieces, .slice A1 d.blocks.length c1, .slice A2 d.walk.length c2] 27)) := (Below.refl _ _).alloc (Nat.le_refl _) _
  have G0 := Lib.hid (heap_alloc_new w (.cells #[.int .i64 d.law.piece, .int .i64 d.law.drive, .int .i64 d.law.spread, .int .i64 d.law.brk, .int .i64 d.law.on, .int .i64 d.law.off, .int .i64 d.law.least, .int .i64 d.law.pieces, .slice A1 d.blocks.length c1, .slice A2 d.walk.length c2] 27 (0, 0)))
  have Hobey := Lib.hid (obeys_iff (d := d) (tb := tabT B) (te := tabT E) (ps := ps))
  have Hrest := Lib.hid (restsP_iff (d := d) (tb := tabT B) (te := tabT E) (ps := ps) (m := d.law.brk))
  have Hda := Lib.hid hda
  have Hd := Lib.hid hd
  have Hv := Lib.hid hv
  have Hb := Lib.hid hb
  have He := Lib.hid he
  have HB := Lib.hid hB
  have HE := Lib.hid hE
  have Hps := Lib.hid hps
  have Hin := Lib.hid hin
  have H0 := Lib.hid h0
  have HDr := Lib.hid (fun w' (hb' : Below w.heap.size w w') => Drive_any _ _ _ ps B E w' (hv.below hb') (hb.below hb') (he.below hb') hB hE hps hl)
  have HSp := Lib.hid (fun w' (hb' : Below w.heap.size w w') => Spread_any d (.slice A1 d.blocks.length c1) (.slice A2 d.walk.length c2) _ _ _ ps B E w' (hv.below hb') (hb.below hb') (he.below hb') hB hE hps hl h0 hd)
  have HBr := Lib.hid (fun w' (hb' : Below w.heap.size w w') => Breaks_any _ _ _ ps B E w' (hv.below hb') (hb.below hb') (he.below hb') hB hE hps hl)
  have HBlen := Lib.hid (breaksP_len (tabT B) (tabT E) ps)
  clear hda hd hv hb he hB hE hps hin h0
  generalize hDr : driveP (tabT B) (tabT E) ps = Dr at *
  generalize hSp : spreadP d (tabT B) (tabT E) ps = Sp at *
  have e4 : IntKind.i64.wrap (ps.length : Int) = (ps.length : Int) := IntWalk.i64_in _ (by omega)
  clear hDr hSp
  go_enter Tryz.func43, Tryz.ntmps43
  go_wp2_with fail
  refine wp_name (fun W => Below w.heap.size w W ∧ W.heap[w.heap.size]? = some (.cells #[.int .i64 d.law.piece, .int .i64 d.law.drive, .int .i64 d.law.spread, .int .i64 d.law.brk, .int .i64 d.law.on, .int .i64 d.law.off, .int .i64 d.law.least, .int .i64 d.law.pieces, .slice A1 d.blocks.length c1, .slice A2 d.walk.length c2] 27 (0, 0))) ⟨hw0, G0.out⟩ (fun W hW => ?_)
  obtain ⟨hbW, hWe⟩ := hW
  have HWe := Lib.hid hWe
  clear hWe G0 hw0
  have hsz := hbW.size
  have f0 := Later.cell (w := W) (box_cells HWe.out 0)
  have f1 := Later.cell (w := W) (box_cells HWe.out 1)
  have f2 := Later.cell (w := W) (box_cells HWe.out 2)
  have f3 := Later.cell (w := W) (box_cells HWe.out 3)
  have f4 := Later.cell (w := W) (box_cells HWe.out 4)
  have f5 := Later.cell (w := W) (box_cells HWe.out 5)
  have f6 := Later.cell (w := W) (box_cells HWe.out 6)
  have f7 := Later.cell (w := W) (box_cells HWe.out 7)
  have f8 := Later.cell (w := W) (box_cells HWe.out 8)
  have f9 := Later.cell (w := W) (box_cells HWe.out 9)
  by_cases q1 : d.law.pieces < (ps.length : Int)
  · have hno : obeysB d (tabT B) (tabT E) ps = false := by
      rw [Bool.eq_false_iff]; intro h; have := (Hobey.out.1 h).1; omega
    have Hno := Lib.hid hno
    clear hno Hobey Hrest Hv Hb He HB HE Hps Hin H0 HBr
    refine wp_region_later (by kernel_rfl) (by kernel_rfl) ?_
    repeat (go_big_quiet_step (fail))
    refine wpQuiet_nil ?_
    intro w2 hx2
    have hb2 := Later.out hx2
    clear hx2 f0 f1 f2 f3 f4 f5 f6 f7 f8 f9
    go_wp2_with fail
    go_ret
    exact ⟨by rw [Hno.out]; rfl, hbW.trans (hb2.mono hsz)⟩
  by_cases q2 : d.law.drive < Dr
  · have hno : obeysB d (tabT B) (tabT E) ps = false := by
      rw [Bool.eq_false_iff]; intro h; have := (Hobey.out.1 h).2.2.1; omega
    have Hno := Lib.hid hno
    clear hno Hobey Hrest Hv Hb He HB HE Hps Hin H0 HBr
    refine wp_region_later (by kernel_rfl) (by kernel_rfl) ?_
    repeat (go_big_quiet_step ((first | (go_at_call 40; exact Later.call (HDr.out _ (hbW.trans (Below.mono (Subtype.property _) hsz)))) | (go_at_call 41; exact Later.call (HSp.out _ (hbW.trans (Below.mono (Subtype.property _) hsz)))))))
    refine wpQuiet_nil ?_
    intro w2 hx2
    have hb2 := Later.out hx2
    clear hx2 f0 f1 f2 f3 f4 f5 f6 f7 f8 f9
    go_wp2_with fail
    go_ret
    exact ⟨by rw [Hno.out]; rfl, hbW.trans (hb2.mono hsz)⟩
  by_cases q3 : d.law.spread < Sp
  · have hno : obeysB d (tabT B) (tabT E) ps = false := by
      rw [Bool.eq_false_iff]; intro h; have := (Hobey.out.1 h).2.2.2.2; omega
    have Hno := Lib.hid hno
    clear hno Hobey Hrest Hv Hb He HB HE Hps Hin H0 HBr
    refine wp_region_later (by kernel_rfl) (by kernel_rfl) ?_
    repeat (go_big_quiet_step ((first | (go_at_call 40; exact Later.call (HDr.out _ (hbW.trans (Below.mono (Subtype.property _) hsz)))) | (go_at_call 41; exact Later.call (HSp.out _ (hbW.trans (Below.mono (Subtype.property _) hsz)))))))
    refine wpQuiet_nil ?_
    intro w2 hx2
    have hb2 := Later.out hx2
    clear hx2 f0 f1 f2 f3 f4 f5 f6 f7 f8 f9
    go_wp2_with fail
    go_ret
    exact ⟨by rw [Hno.out]; rfl, hbW.trans (hb2.mono hsz)⟩
  refine wp_region_later (by kernel_rfl) (by kernel_rfl) ?_
  repeat (go_big_quiet_step ((first | (go_at_call 40; exact Later.call (HDr.out _ (hbW.trans (Below.mono (Subtype.property _) hsz)))) | (go_at_call 41; exact Later.call (HSp.out _ (hbW.trans (Below.mono (Subtype.property _) hsz)))))))
  refine wpQuiet_nil ?_
  intro w2 hx2
  have hb2 := Later.out hx2
  clear hx2 f0 f1 f2 f3 f4 f5 f6 f7 f8 f9
  have hbX := hbW.trans (hb2.mono hsz)
  have HX := Lib.hid (rd_box_step hb2 HWe.out)
  clear HDr HSp HWe
  have hsX := hbX.size
  go_wp2_with (go_at_call 42; refine (HBr.out _ hbX).mono ?_; rintro e w3 ⟨A6, c6, rfl, ho6, hb6⟩)
  have hbY := hbX.trans (hb6.mono hsX)
  have HY := Lib.hid (rd_box_step hb6 HX.out)
  have hn6 := nums_of_own (K := .i64) ho6
  have Hn6 := Lib.hid hn6
  clear ho6 hn6 HX HBr
  have hsY := hbY.size
  go_loopw [10] (fun i wr => ∃ k : Nat, k ≤ ps.length ∧ i = .int .i64 k ∧ Below w3.heap.size w3 wr ∧ ObSt d (tabT B) (tabT E) ps k) (fun i wr => ps.length - (intOf i).toNat)
  case atStart => exact ⟨0, by omega, rfl, Below.refl _ _, fun i p hi => by omega, fun i p q hi => by omega⟩
  case round =>
    obtain ⟨k, hk, rfl, hbr, hob⟩ := hrel
    obtain ⟨wo, rfl⟩ : ∃ wo : World, wo = wr := ⟨_, rfl⟩
    have hbO := hbY.trans (hbr.mono hsY)
    have hsO := hbO.size
    have HO := Lib.hid (rd_box_step (hbr.mono (Nat.le_refl _)) HY.out)
    have Hob := Lib.hid hob
    clear hob
    by_cases hlt : k < ps.length
    · obtain ⟨b0, o0, p, rfl, hp, p0, p1, p2, p3, _⟩ := (Hv.out.below hbO).at_ hlt
      obtain ⟨t1, t2⟩ := Hps.out p (List.mem_of_getElem? hp)
      obtain ⟨d1, d2⟩ := Hin.out p (List.mem_of_getElem? hp)
      obtain ⟨b1, o1, b2, o2, m, c', rfl, e0, e1, e2⟩ := tab_cells (Hb.out.below hbO) t1
      obtain ⟨b3, o3, b4, o4, m', c'', rfl, g0, g1, g2⟩ := tab_cells (He.out.below hbO) t2
      have bd1 := HB.out p.b p.fr
      have bd2 := HE.out p.b p.to
      have i1 : (p.b : Int) < (B.length : Int) := by have := t1.1; omega
      have i2 : (p.b : Int) < (E.length : Int) := by have := t2.1; omega
      have i3 : (p.fr : Int) < (m : Int) := by omega
      have i4 : (p.to : Int) < (m' : Int) := by omega
      have i5 : (k : Int) < (ps.length : Int) := by omega
      generalize hX : tabT B p.b p.fr = X at *
      generalize hY : tabT E p.b p.to = Y at *
      have q4 : IntKind.i64.wrap (Y - X) = Y - X := IntWalk.i64_in _ (by omega)
      have f0 := Later.cell p0
      have f1 := Later.cell p1
      have f2 := Later.cell p2
      have f3 := Later.cell e0
      have f4 := Later.cell e2
      have f5 := Later.cell g0
      have f6 := Later.cell g2
      have f7 := Later.cell (w := wo) (box_cells HO.out 0)
      have HX := Lib.hid hX
      have HY2 := Lib.hid hY
      have Hp := Lib.hid hp
      have D1 := Lib.hid d1
      clear hp hX hY t1 t2 d1 d2
      by_cases q5 : d.law.piece < Y - X
      · have hno : obeysB d (tabT B) (tabT E) ps = false := by
          rw [Bool.eq_false_iff]; intro h
          have := (Hobey.out.1 h).2.1 p (List.mem_of_getElem? Hp.out)
          unfold durP at this
          rw [HX.out, HY2.out] at this
          omega
        have Hno := Lib.hid hno
        clear hno
        go_wp2_with fail
        refine wp_region_later (by kernel_rfl) (by kernel_rfl) ?_
        repeat (go_big_quiet_step (fail))
        refine wpQuiet_nil ?_
        intro w4 hx2
        have hb4 := Later.out hx2
        clear hx2 f0 f1 f2 f3 f4 f5 f6 f7
        go_wp2_with fail
        go_ret
        exact ⟨by rw [Hno.out]; rfl, hbO.trans (hb4.mono hsO)⟩
      have hdur : ∀ i p', i < k + 1 → ps[i]? = some p' → tabT E p'.b p'.to - tabT B p'.b p'.fr ≤ d.law.piece := fun i p' hi hp' => by
        by_cases hik : i < k
        · exact Hob.out.dur i p' hik hp'
        · obtain rfl : i = k := by omega
          rw [Hp.out] at hp'
          cases hp'
          rw [HX.out, HY2.out]
          omega
      have Hdur := Lib.hid hdur
      clear hdur
      by_cases hk0 : k = 0
      · have q6 : ¬ (0 : Int) < (k : Int) := by omega
        have Hk0 := Lib.hid hk0
        clear hk0 Hobey Hrest Hv Hb He HB HE Hps Hin H0
        go_wp2_with fail
        refine wp_region_later (by kernel_rfl) (by kernel_rfl) ?_
        repeat (go_big_quiet_step (fail))
        refine wpQuiet_nil ?_
        intro w4 hx2
        have hb4 := Later.out hx2
        clear hx2 f0 f1 f2 f3 f4 f5 f6 f7
        go_wp2_with fail
        go_roundw
        case rel => exact ⟨k + 1, by omega, by go_num, hbr.trans (hb4.mono hbr.size), Hdur.out, fun i p q hi => by have := Hk0.out; omega⟩
        case measure => simp [intOf]; omega
      obtain ⟨j, hj⟩ : ∃ j, k = j + 1 := ⟨k - 1, by omega⟩
      have q6 : (0 : Int) < (k : Int) := by omega
      have q7 : IntKind.i64.wrap ((k : Int) - 1) = (j : Int) := by rw [IntWalk.i64_in _ (by omega)]; omega
      have q8 : (k : Int) - 1 = (j : Int) := by omega
      have q9 : (j : Int) < (ps.length : Int) := by omega
      have q10 : (j : Int) < ((breaksP (tabT B) (tabT E) ps).length : Int) := by rw [HBlen.out]; omega
      obtain ⟨x0, y0, q, eA, hq, r0, r1, r2, r3, _⟩ := (Hv.out.below hbO).at_ (k := j) (by omega)
      cases eA
      obtain ⟨_, d3⟩ := Hin.out q (List.mem_of_getElem? hq)
      have hdaO := Hda.out.below hbO
      obtain ⟨bx, ox, bx2, ox2, mx, cx2, eA1, s0, s1, _, _, s2, _, _⟩ := rel_cells hdaO.blocks d3
      subst eA1
      obtain ⟨by1, oy1, by2, oy2, my, cy2, eA2, u0, u1, _, _, u2, _, _⟩ := rel_cells hdaO.blocks D1.out
      cases eA2
      obtain ⟨n1, hn1, hn1'⟩ := place_nat Hd.out d3
      obtain ⟨n2, hn2, hn2'⟩ := place_nat Hd.out D1.out
      obtain ⟨bw, ow, bw2, ow2, cw, eW, v0, v1, _, _⟩ := walk_cells hdaO.walk Hd.out hn1' hn2'
      subst eW
      obtain ⟨bb, ob, br, eB, hbrk, v2, _⟩ := (Hn6.out.below (hbr.mono (Nat.le_refl _))).at_ (k := j) (by rw [HBlen.out]; omega)
      subst eB
      have hbrv := breaksP_get (tb := tabT B) (te := tabT E) hq (by rw [← hj]; exact Hp.out)
      rw [hbrk, Option.some.injEq] at hbrv
      have hgap : gapP d q p = walkAt d.walk n1 n2 := by unfold gapP; rw [hn1, hn2]
      have bdw : 0 ≤ walkAt d.walk n1 n2 ∧ walkAt d.walk n1 n2 ≤ 3000 := walk_any Hd.out _ _
      have bdb := Hd.out.law.brk
      rw [hn1] at s2
      rw [hn2] at u2
      generalize hG : walkAt d.walk n1 n2 = G at *
      have q11 : IntKind.i64.wrap (d.law.brk + G) = d.law.brk + G := IntWalk.i64_in _ (by omega)
      have i11 : ((n1 : Nat) : Int) < (d.walk.length : Int) := by omega
      have i12 : ((n2 : Nat) : Int) < (d.walk.length : Int) := by omega
      have i13 : (q.b : Int) < (d.blocks.length : Int) := by have := d3.1; omega
      have i14 : (p.b : Int) < (d.blocks.length : Int) := by have := D1.out.1; omega
      have i15 : (q.to : Int) < (mx : Int) := by omega
      have i16 : (p.fr : Int) < (my : Int) := by omega
      have Hj := Lib.hid hj
      have Hgap := Lib.hid hgap
      have Hbrv := Lib.hid hbrv
      have Hq := Lib.hid hq
      clear hj hk0 hgap hbrv hq hn1 hn2 hn1' hn2' hdaO hG hbrk d3
      go_wp2_with fail
      refine wp_region_later (by kernel_rfl) (by kernel_rfl) ?_
      repeat (go_big_quiet_step (fail))
      refine wpQuiet_nil ?_
      intro w4 hx2
      have hb4 := Later.out hx2
      clear hx2 f0 f1 f2 f3 f4 f5 f6 f7
      have f0 := Later.cell (cell_below hb4 p0)
      have f1 := Later.cell (cell_below hb4 p1)
      have f2 := Later.cell (cell_below hb4 r0)
      have f3 := Later.cell (cell_below hb4 r2)
      have f4 := Later.cell (cell_below hb4 s0)
      have f5 := Later.cell (cell_below hb4 s2)
      have f6 := Later.cell (cell_below hb4 u0)
      have f7 := Later.cell (cell_below hb4 u2)
      have f8 := Later.cell (cell_below hb4 (box_cells HO.out 8))
      go_wp2_with fail
      refine wp_region_later (by kernel_rfl) (by kernel_rfl) ?_
      repeat (go_big_quiet_step (fail))
      refine wpQuiet_nil ?_
      intro w5 hx2
      have hb5 := Later.out hx2
      clear hx2 f0 f1 f2 f3 f4 f5 f6 f7 f8
      have hb45 := hb4.trans (hb5.mono hb4.size)
      have f0 := Later.cell (cell_below hb45 v0)
      have f1 := Later.cell (cell_below hb45 v1)
      have f2 := Later.cell (cell_below hb45 v2)
      have f3 := Later.cell (cell_below hb45 (box_cells HO.out 3))
      have f4 := Later.cell (cell_below hb45 (box_cells HO.out 9))
      by_cases q12 : br < d.law.brk + G
      · have hno : obeysB d (tabT B) (tabT E) ps = false := by
          rw [Bool.eq_false_iff]; intro h
          have := Hrest.out.1 (Hobey.out.1 h).2.2.2.1 j q p Hq.out (by rw [← Hj.out]; exact Hp.out)
          rw [Hgap.out, ← Hbrv.out] at this
          omega
        have Hno := Lib.hid hno
        clear hno Hobey Hrest Hv Hb He HB HE Hps Hin H0
        go_wp2_with fail
        refine wp_region_later (by kernel_rfl) (by kernel_rfl) ?_
        repeat (go_big_quiet_step (fail))
        refine wpQuiet_nil ?_
        intro w6 hx2
        have hb6 := Later.out hx2
        clear hx2 f0 f1 f2 f3 f4
        go_wp2_with fail
        go_ret
        exact ⟨by rw [Hno.out]; rfl, (hbO.trans (hb45.mono hsO)).trans (hb6.mono (hbO.trans (hb45.mono hsO)).size)⟩
      have hrest : ∀ i p' q', i + 1 < k + 1 → ps[i]? = some p' → ps[i + 1]? = some q' → d.law.brk + gapP d p' q' ≤ tabT B q'.b q'.fr - tabT E p'.b p'.to := fun i p' q' hi hp' hq' => by
        by_cases hik : i + 1 < k
        · exact Hob.out.rest i p' q' hik hp' hq'
        · obtain rfl : i = j := by have := Hj.out; omega
          rw [Hq.out] at hp'
          cases hp'
          rw [← Hj.out, Hp.out] at hq'
          cases hq'
          rw [Hgap.out, ← Hbrv.out]
          omega
      have Hrest2 := Lib.hid hrest
      clear hrest Hobey Hrest Hv Hb He HB HE Hps Hin H0
      go_wp2_with fail
      refine wp_region_later (by kernel_rfl) (by kernel_rfl) ?_
      repeat (go_big_quiet_step (fail))
      refine wpQuiet_nil ?_
      intro w6 hx2
      have hb6 := Later.out hx2
      clear hx2 f0 f1 f2 f3 f4
      go_wp2_with fail
      go_roundw
      case rel => exact ⟨k + 1, by omega, by go_num, hbr.trans ((hb45.trans (hb6.mono hb45.size)).mono hbr.size), Hdur.out, Hrest2.out⟩
      case measure => simp [intOf]; omega
    · obtain rfl : k = ps.length := by omega
      have hyes : obeysB d (tabT B) (tabT E) ps = true := Hobey.out.2 ⟨by omega, fun p hp => by
        obtain ⟨i, hi, rfl⟩ := List.getElem_of_mem hp
        exact Hob.out.dur i _ hi (List.getElem?_eq_getElem hi), by omega, Hrest.out.2 fun i p q hp hq => by
        have := Hob.out.rest i p q (List.getElem?_eq_some_iff.1 hq).1 hp hq
        omega, by omega⟩
      have Hyes := Lib.hid hyes
      clear hyes Hobey Hrest Hv Hb He HB HE Hps Hin H0
      go_wp2_with fail
      go_ret
      exact ⟨by rw [Hyes.out]; rfl, hbO⟩
end Go.Proofs.YtllobkhdeahgpaaGreat
