import Derived.Test.YtckgapeednokjaaGreatZj
set_option linter.unusedVariables false
set_option linter.unusedSimpArgs false
namespace Go.Proofs.YtckgapeednokjaaGreat
open Go Go.Proofs Go.RowKit

/-! ### Do -/
theorem truth_tab {d : DDay} (hd : DayOk d) {tt : List (List Int)} (h : truthB d.blocks tt = true) : (∀ b i, InDay d b i → InTab tt b i) ∧ SmallT tt ∧ ∀ b i, InDay d b i → loT d.blocks b i ≤ tabT tt b i ∧ tabT tt b i ≤ hiT d.blocks b i := by
  obtain ⟨h1, h2⟩ := truth_spec h
  have key : ∀ b i, InDay d b i → loT d.blocks b i ≤ tabT tt b i ∧ tabT tt b i ≤ hiT d.blocks b i := fun b i hi => by
    have hc := (h2 b hi.1).2 i hi.2
    unfold cellT at hc
    simp only [Bool.and_eq_true] at hc
    exact inB_iff.1 hc.1
  have hin : ∀ b i, InDay d b i → InTab tt b i := fun b i hi => ⟨by rw [h1]; exact hi.1, by rw [(h2 b hi.1).1]; exact hi.2⟩
  refine ⟨hin, fun b i => ?_, key⟩
  by_cases hb : b < d.blocks.length
  · by_cases hi : i < (d.blocks[b]?.getD []).length
    · have hk := key b i ⟨hb, hi⟩
      have hr := rel_any hd b i
      omega
    · have : tabT tt b i = 0 := by
        unfold tabT
        rw [List.getElem?_eq_none (l := tt[b]?.getD []) (by rw [(h2 b hb).1]; omega)]
        rfl
      omega
  · have : tabT tt b i = 0 := by
      unfold tabT
      rw [List.getElem?_eq_none (l := tt) (by rw [h1]; omega)]
      rfl
    omega
theorem results_cell_row2 {P : Program} {fn : Func} {p u : Tmp} {ty : TypeId} (h : fn.results = #[.cell p ty, .tmp u]) (tmps : Array Value) (w : World) (g : Nat) (t : TypeId) (cs : Array Value) (fr : Nat × Nat) (d : TypeDesc)
    (hp : tmps.getD p undef = .pointer (some ⟨g, 0, none⟩)) (hg : w.heap[g]? = some (.cells cs t fr))
    (hu : P.underlying ty = some d) (hd : (match d with | .struct _ | .array _ _ => true | _ => false) = true) (hi : (P.info? ty).map (·.size) = some cs.size) :
    (results fn tmps).run P w = .ok (.tuple #[.agg cs, tmps.getD u undef]) w := by
  rw [results_cell_tmp h, hp]
  simp [asAddr, run_loadVar_row w g t ty cs fr d hg hu hd hi]
set_option maxRecDepth 100000 in
set_option maxHeartbeats 800000 in
theorem at_tab (Q b i : Nat) (v : Value) (tt : List (List Int)) (w : World) (hq : w.cell? ⟨Q, 0, none⟩ = some v) (hv : RowsAt w v tt) (hi : InTab tt b i) :
    Calls Tryz.prog 63 #[.agg #[.int .i64 (b : Int), .int .i64 (i : Int)], .pointer (some ⟨Q, 0, none⟩)] w (Gives w (.int .i64 (tabT tt b i))) := by
  obtain ⟨A, c, rfl, hc, hm⟩ := hv.form
  obtain ⟨bb, oo, b2, o2, m, c', rfl, k0, him, k1⟩ := tab_cells hv hi
  have hB := World.block_lt_of_cell? _ _ k0
  have hB' := World.block_lt_of_cell? _ _ k1
  have hQ := World.block_lt_of_cell? _ _ hq
  have hbI : (b : Int) < (tt.length : Int) := by have := hi.1; omega
  have hiI : (i : Int) < (m : Int) := by omega
  generalize tabT tt b i = X at *
  clear hi hv
  go_enter Tryz.func63, Tryz.ntmps63
  go_wp2
  go_quiet (fail)
  go_wp2
  go_ret
  exact ⟨rfl, drewN_below ((Below.refl _ _).alloc (Nat.le_refl _) _) _⟩
set_option maxRecDepth 100000 in
set_option maxHeartbeats 1600000 in
theorem Do_fault (d : DDay) (u z v vt : Value) (l : List Int) (tt : List (List Int)) (w : World) (hda : DayAt w u z d) (hm : Mild d) (hv : NumsAt .i64 w v l) (hl : l.length ≤ 1000) (hvt : RowsAt w vt tt) (hf : (faultD d != 0) = true) :
    Calls Tryz.prog 26 #[.agg #[.int .i64 d.law.piece, .int .i64 d.law.drive, .int .i64 d.law.spread, .int .i64 d.law.brk, .int .i64 d.law.on, .int .i64 d.law.off, .int .i64 d.law.least, .int .i64 d.law.pieces, u, z], v, vt] w (Gives w (.tuple #[.agg #[.int .i64 0, .int .i64 0, .slice none 0 0, .bool false], .int .i64 (faultD d)])) := by
  obtain ⟨A1, c1, rfl, _, _⟩ := hda.blocks.form
  obtain ⟨A2, c2, rfl, _, _⟩ := hda.walk.form
  obtain ⟨A3, c3, rfl, hc3, hm3⟩ := hv.form
  obtain ⟨A4, c4, rfl, hc4, hm4⟩ := hvt.form
  have hw0 : Below w.heap.size w (((w.alloc (.cells #[.int .i64 d.law.piece, .int .i64 d.law.drive, .int .i64 d.law.spread, .int .i64 d.law.brk, .int .i64 d.law.on, .int .i64 d.law.off, .int .i64 d.law.least, .int .i64 d.law.pieces, .slice A1 d.blocks.length c1, .slice A2 d.walk.length c2] 73)).alloc (.cells #[.slice A4 tt.length c4] 45)).alloc (.cells #[.int .i64 0, .int .i64 0, .slice none 0 0, .bool false] 80)) := (((Below.refl _ _).alloc (Nat.le_refl _) _).alloc (by simp) _).alloc (by simp; omega) _
  have G0 := Lib.hid (show (((w.alloc (.cells #[.int .i64 d.law.piece, .int .i64 d.law.drive, .int .i64 d.law.spread, .int .i64 d.law.brk, .int .i64 d.law.on, .int .i64 d.law.off, .int .i64 d.law.least, .int .i64 d.law.pieces, .slice A1 d.blocks.length c1, .slice A2 d.walk.length c2] 73)).alloc (.cells #[.slice A4 tt.length c4] 45)).alloc (.cells #[.int .i64 0, .int .i64 0, .slice none 0 0, .bool false] 80)).heap[w.heap.size]? = some (.cells #[.int .i64 d.law.piece, .int .i64 d.law.drive, .int .i64 d.law.spread, .int .i64 d.law.brk, .int .i64 d.law.on, .int .i64 d.law.off, .int .i64 d.law.least, .int .i64 d.law.pieces, .slice A1 d.blocks.length c1, .slice A2 d.walk.length c2] 73 (0, 0)) from (Below.heap_alloc _ _ _ (by simp; omega)).trans ((Below.heap_alloc _ _ _ (by simp)).trans (heap_alloc_new w _)))
  have Q0 := Lib.hid (show (((w.alloc (.cells #[.int .i64 d.law.piece, .int .i64 d.law.drive, .int .i64 d.law.spread, .int .i64 d.law.brk, .int .i64 d.law.on, .int .i64 d.law.off, .int .i64 d.law.least, .int .i64 d.law.pieces, .slice A1 d.blocks.length c1, .slice A2 d.walk.length c2] 73)).alloc (.cells #[.slice A4 tt.length c4] 45)).alloc (.cells #[.int .i64 0, .int .i64 0, .slice none 0 0, .bool false] 80)).heap[w.heap.size + 1]? = some (.cells #[.slice A4 tt.length c4] 45 (0, 0)) from (Below.heap_alloc _ _ _ (by simp)).trans (heap_alloc2_new w _ _))
  have R0 := Lib.hid (show (((w.alloc (.cells #[.int .i64 d.law.piece, .int .i64 d.law.drive, .int .i64 d.law.spread, .int .i64 d.law.brk, .int .i64 d.law.on, .int .i64 d.law.off, .int .i64 d.law.least, .int .i64 d.law.pieces, .slice A1 d.blocks.length c1, .slice A2 d.walk.length c2] 73)).alloc (.cells #[.slice A4 tt.length c4] 45)).alloc (.cells #[.int .i64 0, .int .i64 0, .slice none 0 0, .bool false] 80)).heap[w.heap.size + 1 + 1]? = some (.cells #[.int .i64 0, .int .i64 0, .slice none 0 0, .bool false] 80 (0, 0)) from by
    have h := heap_alloc_new ((w.alloc (.cells #[.int .i64 d.law.piece, .int .i64 d.law.drive, .int .i64 d.law.spread, .int .i64 d.law.brk, .int .i64 d.law.on, .int .i64 d.law.off, .int .i64 d.law.least, .int .i64 d.law.pieces, .slice A1 d.blocks.length c1, .slice A2 d.walk.length c2] 73)).alloc (.cells #[.slice A4 tt.length c4] 45)) (.cells #[.int .i64 0, .int .i64 0, .slice none 0 0, .bool false] 80)
    simpa using h)
  have Hda := Lib.hid hda
  have Hv := Lib.hid hv
  have Hvt := Lib.hid hvt
  have Hf := Lib.hid (show ∀ (u z v : Value) (w' : World), DayAt w' u z d → Calls Tryz.prog 61 #[.agg #[.int .i64 d.law.piece, .int .i64 d.law.drive, .int .i64 d.law.spread, .int .i64 d.law.brk, .int .i64 d.law.on, .int .i64 d.law.off, .int .i64 d.law.least, .int .i64 d.law.pieces, u, z], v] w' (Gives w' (.tuple #[.pointer none, .int .u16 0, .int .i64 (faultD d)])) from fun u z v w' h => asked_fault d u z v w' h hm hf)
  generalize faultD d = F at *
  clear hda hv hvt hc3 hm3
  go_enter Tryz.func26, Tryz.ntmps26
  have gc := box_cells G0.out
  have gf := box_frozen G0.out
  have qc := box_cells Q0.out
  have qf := box_frozen Q0.out
  have rc := box_cells R0.out
  have rf := box_frozen R0.out
  go_wp2_with fail
  refine (Hf.out _ _ _ _ (Hda.out.below hw0)).mono ?_
  rintro e w1 ⟨rfl, hb1⟩
  have hw1 := hw0.trans (hb1.mono hw0.size)
  have G1 := Lib.hid (box_step hb1 G0.out)
  replace gc := box_cells G1.out
  replace gf := box_frozen G1.out
  have Q1 := Lib.hid (box_step hb1 Q0.out)
  replace qc := box_cells Q1.out
  replace qf := box_frozen Q1.out
  have R1 := Lib.hid (box_step hb1 R0.out)
  replace rc := box_cells R1.out
  replace rf := box_frozen R1.out
  go_wp2
  have e1 := blk_set (blk_set (blk_set (blk_set R1.out (o := 0) (.int .i64 0)) (o := 1) (.int .i64 0)) (o := 2) (.slice none 0 0)) (o := 3) (.bool false)
  simp only [List.setIfInBounds_toArray, List.set_cons_succ, List.set_cons_zero] at e1
  refine bodyPost_ret (results_cell_row2 rfl _ _ (w.heap.size + 1 + 1) 80 #[.int .i64 0, .int .i64 0, .slice none 0 0, .bool false] (0, 0) _ rfl e1 rfl rfl (by kernel_rfl)) rfl ⟨rfl, ((((hw1.setCell (p := ⟨w.heap.size + 1 + 1, 0, none⟩) (by simp only; omega) _).setCell (p := ⟨w.heap.size + 1 + 1, 1, none⟩) (by simp only; omega) _).setCell (p := ⟨w.heap.size + 1 + 1, 2, none⟩) (by simp only; omega) _).setCell (p := ⟨w.heap.size + 1 + 1, 3, none⟩) (by simp only; omega) _)⟩
set_option maxRecDepth 100000 in
set_option maxHeartbeats 1600000 in
theorem Do_range (d : DDay) (u z v vt : Value) (l : List Int) (tt : List (List Int)) (w : World) (hda : DayAt w u z d) (hm : Mild d) (hv : NumsAt .i64 w v l) (hl : l.length ≤ 1000) (hvt : RowsAt w vt tt) (hd : DayOk d) (hr : dutyB (segN d.blocks) l = false) :
    Calls Tryz.prog 26 #[.agg #[.int .i64 d.law.piece, .int .i64 d.law.drive, .int .i64 d.law.spread, .int .i64 d.law.brk, .int .i64 d.law.on, .int .i64 d.law.off, .int .i64 d.law.least, .int .i64 d.law.pieces, u, z], v, vt] w (Gives w (.tuple #[.agg #[.int .i64 0, .int .i64 0, .slice none 0 0, .bool false], .int .i64 2])) := by
  obtain ⟨A1, c1, rfl, _, _⟩ := hda.blocks.form
  obtain ⟨A2, c2, rfl, _, _⟩ := hda.walk.form
  obtain ⟨A3, c3, rfl, hc3, hm3⟩ := hv.form
  obtain ⟨A4, c4, rfl, hc4, hm4⟩ := hvt.form
  have hw0 : Below w.heap.size w (((w.alloc (.cells #[.int .i64 d.law.piece, .int .i64 d.law.drive, .int .i64 d.law.spread, .int .i64 d.law.brk, .int .i64 d.law.on, .int .i64 d.law.off, .int .i64 d.law.least, .int .i64 d.law.pieces, .slice A1 d.blocks.length c1, .slice A2 d.walk.length c2] 73)).alloc (.cells #[.slice A4 tt.length c4] 45)).alloc (.cells #[.int .i64 0, .int .i64 0, .slice none 0 0, .bool false] 80)) := (((Below.refl _ _).alloc (Nat.le_refl _) _).alloc (by simp) _).alloc (by simp; omega) _
  have G0 := Lib.hid (show (((w.alloc (.cells #[.int .i64 d.law.piece, .int .i64 d.law.drive, .int .i64 d.law.spread, .int .i64 d.law.brk, .int .i64 d.law.on, .int .i64 d.law.off, .int .i64 d.law.least, .int .i64 d.law.pieces, .slice A1 d.blocks.length c1, .slice A2 d.walk.length c2] 73)).alloc (.cells #[.slice A4 tt.length c4] 45)).alloc (.cells #[.int .i64 0, .int .i64 0, .slice none 0 0, .bool false] 80)).heap[w.heap.size]? = some (.cells #[.int .i64 d.law.piece, .int .i64 d.law.drive, .int .i64 d.law.spread, .int .i64 d.law.brk, .int .i64 d.law.on, .int .i64 d.law.off, .int .i64 d.law.least, .int .i64 d.law.pieces, .slice A1 d.blocks.length c1, .slice A2 d.walk.length c2] 73 (0, 0)) from (Below.heap_alloc _ _ _ (by simp; omega)).trans ((Below.heap_alloc _ _ _ (by simp)).trans (heap_alloc_new w _)))
  have Q0 := Lib.hid (show (((w.alloc (.cells #[.int .i64 d.law.piece, .int .i64 d.law.drive, .int .i64 d.law.spread, .int .i64 d.law.brk, .int .i64 d.law.on, .int .i64 d.law.off, .int .i64 d.law.least, .int .i64 d.law.pieces, .slice A1 d.blocks.length c1, .slice A2 d.walk.length c2] 73)).alloc (.cells #[.slice A4 tt.length c4] 45)).alloc (.cells #[.int .i64 0, .int .i64 0, .slice none 0 0, .bool false] 80)).heap[w.heap.size + 1]? = some (.cells #[.slice A4 tt.length c4] 45 (0, 0)) from (Below.heap_alloc _ _ _ (by simp)).trans (heap_alloc2_new w _ _))
  have R0 := Lib.hid (show (((w.alloc (.cells #[.int .i64 d.law.piece, .int .i64 d.law.drive, .int .i64 d.law.spread, .int .i64 d.law.brk, .int .i64 d.law.on, .int .i64 d.law.off, .int .i64 d.law.least, .int .i64 d.law.pieces, .slice A1 d.blocks.length c1, .slice A2 d.walk.length c2] 73)).alloc (.cells #[.slice A4 tt.length c4] 45)).alloc (.cells #[.int .i64 0, .int .i64 0, .slice none 0 0, .bool false] 80)).heap[w.heap.size + 1 + 1]? = some (.cells #[.int .i64 0, .int .i64 0, .slice none 0 0, .bool false] 80 (0, 0)) from by
    have h := heap_alloc_new ((w.alloc (.cells #[.int .i64 d.law.piece, .int .i64 d.law.drive, .int .i64 d.law.spread, .int .i64 d.law.brk, .int .i64 d.law.on, .int .i64 d.law.off, .int .i64 d.law.least, .int .i64 d.law.pieces, .slice A1 d.blocks.length c1, .slice A2 d.walk.length c2] 73)).alloc (.cells #[.slice A4 tt.length c4] 45)) (.cells #[.int .i64 0, .int .i64 0, .slice none 0 0, .bool false] 80)
    simpa using h)
  have Hda := Lib.hid hda
  have Hv := Lib.hid hv
  have Hvt := Lib.hid hvt
  have hsn := hd.segs
  have Hd := Lib.hid hd
  have Hno := Lib.hid (show ¬ DutyI (segN d.blocks) l from fun h => by rw [dutyB_iff.2 h] at hr; cases hr)
  clear hd hr
  clear hda hv hvt hc3 hm3
  go_enter Tryz.func26, Tryz.ntmps26
  have gc := box_cells G0.out
  have gf := box_frozen G0.out
  have qc := box_cells Q0.out
  have qf := box_frozen Q0.out
  have rc := box_cells R0.out
  have rf := box_frozen R0.out
  go_wp2_with fail
  refine (asked_any d _ _ _ l _ (Hda.out.below hw0) Hd.out (Hv.out.below hw0) hl).mono ?_
  rintro e w1 ⟨_, hq⟩
  obtain ⟨rfl, hb1⟩ := hq Hno.out
  clear hq
  have hw1 := hw0.trans (hb1.mono hw0.size)
  have G1 := Lib.hid (box_step hb1 G0.out)
  replace gc := box_cells G1.out
  replace gf := box_frozen G1.out
  have Q1 := Lib.hid (box_step hb1 Q0.out)
  replace qc := box_cells Q1.out
  replace qf := box_frozen Q1.out
  have R1 := Lib.hid (box_step hb1 R0.out)
  replace rc := box_cells R1.out
  replace rf := box_frozen R1.out
  go_wp2
  have e1 := blk_set (blk_set (blk_set (blk_set R1.out (o := 0) (.int .i64 0)) (o := 1) (.int .i64 0)) (o := 2) (.slice none 0 0)) (o := 3) (.bool false)
  simp only [List.setIfInBounds_toArray, List.set_cons_succ, List.set_cons_zero] at e1
  refine bodyPost_ret (results_cell_row2 rfl _ _ (w.heap.size + 1 + 1) 80 #[.int .i64 0, .int .i64 0, .slice none 0 0, .bool false] (0, 0) _ rfl e1 rfl rfl (by kernel_rfl)) rfl ⟨rfl, ((((hw1.setCell (p := ⟨w.heap.size + 1 + 1, 0, none⟩) (by simp only; omega) _).setCell (p := ⟨w.heap.size + 1 + 1, 1, none⟩) (by simp only; omega) _).setCell (p := ⟨w.heap.size + 1 + 1, 2, none⟩) (by simp only; omega) _).setCell (p := ⟨w.heap.size + 1 + 1, 3, none⟩) (by simp only; omega) _)⟩
set_option maxRecDepth 100000 in
set_option maxHeartbeats 1600000 in
theorem Do_untrue (d : DDay) (u z v vt : Value) (l : List Int) (tt : List (List Int)) (w : World) (hda : DayAt w u z d) (hm : Mild d) (hv : NumsAt .i64 w v l) (hl : l.length ≤ 1000) (hvt : RowsAt w vt tt) (hd : DayOk d) (hr : dutyB (segN d.blocks) l = true) (ht : truthB d.blocks tt = false) :
    Calls Tryz.prog 26 #[.agg #[.int .i64 d.law.piece, .int .i64 d.law.drive, .int .i64 d.law.spread, .int .i64 d.law.brk, .int .i64 d.law.on, .int .i64 d.law.off, .int .i64 d.law.least, .int .i64 d.law.pieces, u, z], v, vt] w (Gives w (.tuple #[.agg #[.int .i64 0, .int .i64 0, .slice none 0 0, .bool false], .int .i64 2])) := by
  obtain ⟨A1, c1, rfl, _, _⟩ := hda.blocks.form
  obtain ⟨A2, c2, rfl, _, _⟩ := hda.walk.form
  obtain ⟨A3, c3, rfl, hc3, hm3⟩ := hv.form
  obtain ⟨A4, c4, rfl, hc4, hm4⟩ := hvt.form
  have hw0 : Below w.heap.size w (((w.alloc (.cells #[.int .i64 d.law.piece, .int .i64 d.law.drive, .int .i64 d.law.spread, .int .i64 d.law.brk, .int .i64 d.law.on, .int .i64 d.law.off, .int .i64 d.law.least, .int .i64 d.law.pieces, .slice A1 d.blocks.length c1, .slice A2 d.walk.length c2] 73)).alloc (.cells #[.slice A4 tt.length c4] 45)).alloc (.cells #[.int .i64 0, .int .i64 0, .slice none 0 0, .bool false] 80)) := (((Below.refl _ _).alloc (Nat.le_refl _) _).alloc (by simp) _).alloc (by simp; omega) _
  have G0 := Lib.hid (show (((w.alloc (.cells #[.int .i64 d.law.piece, .int .i64 d.law.drive, .int .i64 d.law.spread, .int .i64 d.law.brk, .int .i64 d.law.on, .int .i64 d.law.off, .int .i64 d.law.least, .int .i64 d.law.pieces, .slice A1 d.blocks.length c1, .slice A2 d.walk.length c2] 73)).alloc (.cells #[.slice A4 tt.length c4] 45)).alloc (.cells #[.int .i64 0, .int .i64 0, .slice none 0 0, .bool false] 80)).heap[w.heap.size]? = some (.cells #[.int .i64 d.law.piece, .int .i64 d.law.drive, .int .i64 d.law.spread, .int .i64 d.law.brk, .int .i64 d.law.on, .int .i64 d.law.off, .int .i64 d.law.least, .int .i64 d.law.pieces, .slice A1 d.blocks.length c1, .slice A2 d.walk.length c2] 73 (0, 0)) from (Below.heap_alloc _ _ _ (by simp; omega)).trans ((Below.heap_alloc _ _ _ (by simp)).trans (heap_alloc_new w _)))
  have Q0 := Lib.hid (show (((w.alloc (.cells #[.int .i64 d.law.piece, .int .i64 d.law.drive, .int .i64 d.law.spread, .int .i64 d.law.brk, .int .i64 d.law.on, .int .i64 d.law.off, .int .i64 d.law.least, .int .i64 d.law.pieces, .slice A1 d.blocks.length c1, .slice A2 d.walk.length c2] 73)).alloc (.cells #[.slice A4 tt.length c4] 45)).alloc (.cells #[.int .i64 0, .int .i64 0, .slice none 0 0, .bool false] 80)).heap[w.heap.size + 1]? = some (.cells #[.slice A4 tt.length c4] 45 (0, 0)) from (Below.heap_alloc _ _ _ (by simp)).trans (heap_alloc2_new w _ _))
  have R0 := Lib.hid (show (((w.alloc (.cells #[.int .i64 d.law.piece, .int .i64 d.law.drive, .int .i64 d.law.spread, .int .i64 d.law.brk, .int .i64 d.law.on, .int .i64 d.law.off, .int .i64 d.law.least, .int .i64 d.law.pieces, .slice A1 d.blocks.length c1, .slice A2 d.walk.length c2] 73)).alloc (.cells #[.slice A4 tt.length c4] 45)).alloc (.cells #[.int .i64 0, .int .i64 0, .slice none 0 0, .bool false] 80)).heap[w.heap.size + 1 + 1]? = some (.cells #[.int .i64 0, .int .i64 0, .slice none 0 0, .bool false] 80 (0, 0)) from by
    have h := heap_alloc_new ((w.alloc (.cells #[.int .i64 d.law.piece, .int .i64 d.law.drive, .int .i64 d.law.spread, .int .i64 d.law.brk, .int .i64 d.law.on, .int .i64 d.law.off, .int .i64 d.law.least, .int .i64 d.law.pieces, .slice A1 d.blocks.length c1, .slice A2 d.walk.length c2] 73)).alloc (.cells #[.slice A4 tt.length c4] 45)) (.cells #[.int .i64 0, .int .i64 0, .slice none 0 0, .bool false] 80)
    simpa using h)
  have Hda := Lib.hid hda
  have Hv := Lib.hid hv
  have Hvt := Lib.hid hvt
  have hsn := hd.segs
  have Hd := Lib.hid hd
  have hyes := dutyB_iff.1 hr
  obtain ⟨m1, m2, _, _⟩ := duty_mask hyes
  have Hyes := Lib.hid hyes
  clear hr hyes
  have Ht := Lib.hid ht
  clear hd ht
  clear hda hv hvt hc3 hm3
  go_enter Tryz.func26, Tryz.ntmps26
  have gc := box_cells G0.out
  have gf := box_frozen G0.out
  have qc := box_cells Q0.out
  have qf := box_frozen Q0.out
  have rc := box_cells R0.out
  have rf := box_frozen R0.out
  go_wp2_with fail
  refine (asked_any d _ _ _ l _ (Hda.out.below hw0) Hd.out (Hv.out.below hw0) hl).mono ?_
  rintro e w1 ⟨hq, _⟩
  obtain ⟨P, rfl, hp, hb1⟩ := hq Hyes.out
  have Hp := Lib.hid hp
  clear hq hp
  have hw1 := hw0.trans (hb1.mono hw0.size)
  have G1 := Lib.hid (box_step hb1 G0.out)
  replace gc := box_cells G1.out
  replace gf := box_frozen G1.out
  have Q1 := Lib.hid (box_step hb1 Q0.out)
  replace qc := box_cells Q1.out
  replace qf := box_frozen Q1.out
  have R1 := Lib.hid (box_step hb1 R0.out)
  replace rc := box_cells R1.out
  replace rf := box_frozen R1.out
  go_wp2_with fail
  refine (Gives.to Ht.out (truth_any d _ _ _ tt _ (Hda.out.below hw1) hm (Hvt.out.below hw1))).mono ?_
  rintro e w2 ⟨rfl, hb2⟩
  have hw2 := hw1.trans (hb2.mono hw1.size)
  have G2 := Lib.hid (box_step hb2 G1.out)
  replace gc := box_cells G2.out
  replace gf := box_frozen G2.out
  have Q2 := Lib.hid (box_step hb2 Q1.out)
  replace qc := box_cells Q2.out
  replace qf := box_frozen Q2.out
  have R2 := Lib.hid (box_step hb2 R1.out)
  replace rc := box_cells R2.out
  replace rf := box_frozen R2.out
  go_wp2
  have e1 := blk_set (blk_set (blk_set (blk_set R2.out (o := 0) (.int .i64 0)) (o := 1) (.int .i64 0)) (o := 2) (.slice none 0 0)) (o := 3) (.bool false)
  simp only [List.setIfInBounds_toArray, List.set_cons_succ, List.set_cons_zero] at e1
  refine bodyPost_ret (results_cell_row2 rfl _ _ (w.heap.size + 1 + 1) 80 #[.int .i64 0, .int .i64 0, .slice none 0 0, .bool false] (0, 0) _ rfl e1 rfl rfl (by kernel_rfl)) rfl ⟨rfl, ((((hw2.setCell (p := ⟨w.heap.size + 1 + 1, 0, none⟩) (by simp only; omega) _).setCell (p := ⟨w.heap.size + 1 + 1, 1, none⟩) (by simp only; omega) _).setCell (p := ⟨w.heap.size + 1 + 1, 2, none⟩) (by simp only; omega) _).setCell (p := ⟨w.heap.size + 1 + 1, 3, none⟩) (by simp only; omega) _)⟩
def GivesDo (d : DDay) (t : Nat → Nat → Int) (ps : List Pc) (w : World) (e : Ending) (w' : World) : Prop := ∃ (A : Option Addr) (c : Nat),
  e = .returned (.tuple #[.agg #[.int .i64 (driveP t t ps), .int .i64 (spreadP d t t ps), .slice A (ps.length - 1) c, .bool (obeysB d t t ps)], .int .i64 0]) ∧ NumsAt .i64 w' (.slice A (ps.length - 1) c) (breaksP t t ps) ∧ Below w.heap.size w w'
set_option maxRecDepth 100000 in
set_option maxHeartbeats 6400000 in
theorem Do_ok (d : DDay) (u z v vt : Value) (l : List Int) (tt : List (List Int)) (w : World) (hda : DayAt w u z d) (hm : Mild d) (hv : NumsAt .i64 w v l) (hl : l.length ≤ 1000) (hvt : RowsAt w vt tt) (hd : DayOk d) (hr : dutyB (segN d.blocks) l = true) (ht : truthB d.blocks tt = true) :
    Calls Tryz.prog 26 #[.agg #[.int .i64 d.law.piece, .int .i64 d.law.drive, .int .i64 d.law.spread, .int .i64 d.law.brk, .int .i64 d.law.on, .int .i64 d.law.off, .int .i64 d.law.least, .int .i64 d.law.pieces, u, z], v, vt] w (GivesDo d (tabT tt) (piecesL d (natsOf l)) w) := by
  obtain ⟨t1, t2, t3⟩ := truth_tab hd ht
  obtain ⟨A1, c1, rfl, _, _⟩ := hda.blocks.form
  obtain ⟨A2, c2, rfl, _, _⟩ := hda.walk.form
  obtain ⟨A3, c3, rfl, hc3, hm3⟩ := hv.form
  obtain ⟨A4, c4, rfl, hc4, hm4⟩ := hvt.form
  have hw0 : Below w.heap.size w (((w.alloc (.cells #[.int .i64 d.law.piece, .int .i64 d.law.drive, .int .i64 d.law.spread, .int .i64 d.law.brk, .int .i64 d.law.on, .int .i64 d.law.off, .int .i64 d.law.least, .int .i64 d.law.pieces, .slice A1 d.blocks.length c1, .slice A2 d.walk.length c2] 73)).alloc (.cells #[.slice A4 tt.length c4] 45)).alloc (.cells #[.int .i64 0, .int .i64 0, .slice none 0 0, .bool false] 80)) := (((Below.refl _ _).alloc (Nat.le_refl _) _).alloc (by simp) _).alloc (by simp; omega) _
  have G0 := Lib.hid (show (((w.alloc (.cells #[.int .i64 d.law.piece, .int .i64 d.law.drive, .int .i64 d.law.spread, .int .i64 d.law.brk, .int .i64 d.law.on, .int .i64 d.law.off, .int .i64 d.law.least, .int .i64 d.law.pieces, .slice A1 d.blocks.length c1, .slice A2 d.walk.length c2] 73)).alloc (.cells #[.slice A4 tt.length c4] 45)).alloc (.cells #[.int .i64 0, .int .i64 0, .slice none 0 0, .bool false] 80)).heap[w.heap.size]? = some (.cells #[.int .i64 d.law.piece, .int .i64 d.law.drive, .int .i64 d.law.spread, .int .i64 d.law.brk, .int .i64 d.law.on, .int .i64 d.law.off, .int .i64 d.law.least, .int .i64 d.law.pieces, .slice A1 d.blocks.length c1, .slice A2 d.walk.length c2] 73 (0, 0)) from (Below.heap_alloc _ _ _ (by simp; omega)).trans ((Below.heap_alloc _ _ _ (by simp)).trans (heap_alloc_new w _)))
  have Q0 := Lib.hid (show (((w.alloc (.cells #[.int .i64 d.law.piece, .int .i64 d.law.drive, .int .i64 d.law.spread, .int .i64 d.law.brk, .int .i64 d.law.on, .int .i64 d.law.off, .int .i64 d.law.least, .int .i64 d.law.pieces, .slice A1 d.blocks.length c1, .slice A2 d.walk.length c2] 73)).alloc (.cells #[.slice A4 tt.length c4] 45)).alloc (.cells #[.int .i64 0, .int .i64 0, .slice none 0 0, .bool false] 80)).heap[w.heap.size + 1]? = some (.cells #[.slice A4 tt.length c4] 45 (0, 0)) from (Below.heap_alloc _ _ _ (by simp)).trans (heap_alloc2_new w _ _))
  have R0 := Lib.hid (show (((w.alloc (.cells #[.int .i64 d.law.piece, .int .i64 d.law.drive, .int .i64 d.law.spread, .int .i64 d.law.brk, .int .i64 d.law.on, .int .i64 d.law.off, .int .i64 d.law.least, .int .i64 d.law.pieces, .slice A1 d.blocks.length c1, .slice A2 d.walk.length c2] 73)).alloc (.cells #[.slice A4 tt.length c4] 45)).alloc (.cells #[.int .i64 0, .int .i64 0, .slice none 0 0, .bool false] 80)).heap[w.heap.size + 1 + 1]? = some (.cells #[.int .i64 0, .int .i64 0, .slice none 0 0, .bool false] 80 (0, 0)) from by
    have h := heap_alloc_new ((w.alloc (.cells #[.int .i64 d.law.piece, .int .i64 d.law.drive, .int .i64 d.law.spread, .int .i64 d.law.brk, .int .i64 d.law.on, .int .i64 d.law.off, .int .i64 d.law.least, .int .i64 d.law.pieces, .slice A1 d.blocks.length c1, .slice A2 d.walk.length c2] 73)).alloc (.cells #[.slice A4 tt.length c4] 45)) (.cells #[.int .i64 0, .int .i64 0, .slice none 0 0, .bool false] 80)
    simpa using h)
  have Hda := Lib.hid hda
  have Hv := Lib.hid hv
  have Hvt := Lib.hid hvt
  have hsn := hd.segs
  have Hd := Lib.hid hd
  have hyes := dutyB_iff.1 hr
  obtain ⟨m1, m2, _, _⟩ := duty_mask hyes
  have Hyes := Lib.hid hyes
  clear hr hyes
  have Ht := Lib.hid ht
  have HT1 := Lib.hid t1
  have HT2 := Lib.hid (show ∀ b i, InDay d b i → (0 ≤ tabT tt b i ∧ tabT tt b i ≤ 3000) ∧ (0 ≤ tabT tt b i ∧ tabT tt b i ≤ 3000) from fun b i _ => ⟨t2 b i, t2 b i⟩)
  have HSO := Lib.hid (set_ok hd m1 m2)
  have HPS := Lib.hid (show piecesL d (bitsL (segN d.blocks) (maskL (natsOf l))) = piecesL d (natsOf l) by
    have h := (dutyI_iff.1 Hyes.out).2
    rw [bitsL_mask h.rise h.lt])
  rw [HPS.out] at HSO
  clear hd ht t1 t2 t3
  clear hda hv hvt hc3 hm3
  go_enter Tryz.func26, Tryz.ntmps26
  have gc := box_cells G0.out
  have gf := box_frozen G0.out
  have qc := box_cells Q0.out
  have qf := box_frozen Q0.out
  have rc := box_cells R0.out
  have rf := box_frozen R0.out
  go_wp2_with fail
  refine (asked_any d _ _ _ l _ (Hda.out.below hw0) Hd.out (Hv.out.below hw0) hl).mono ?_
  rintro e w1 ⟨hq, _⟩
  obtain ⟨P, rfl, hp, hb1⟩ := hq Hyes.out
  have Hp := Lib.hid hp
  clear hq hp
  have hw1 := hw0.trans (hb1.mono hw0.size)
  have G1 := Lib.hid (box_step hb1 G0.out)
  replace gc := box_cells G1.out
  replace gf := box_frozen G1.out
  have Q1 := Lib.hid (box_step hb1 Q0.out)
  replace qc := box_cells Q1.out
  replace qf := box_frozen Q1.out
  have R1 := Lib.hid (box_step hb1 R0.out)
  replace rc := box_cells R1.out
  replace rf := box_frozen R1.out
  go_wp2_with fail
  refine (Gives.to Ht.out (truth_any d _ _ _ tt _ (Hda.out.below hw1) hm (Hvt.out.below hw1))).mono ?_
  rintro e w2 ⟨rfl, hb2⟩
  have hw2 := hw1.trans (hb2.mono hw1.size)
  have G2 := Lib.hid (box_step hb2 G1.out)
  replace gc := box_cells G2.out
  replace gf := box_frozen G2.out
  have Q2 := Lib.hid (box_step hb2 Q1.out)
  replace qc := box_cells Q2.out
  replace qf := box_frozen Q2.out
  have R2 := Lib.hid (box_step hb2 R1.out)
  replace rc := box_cells R2.out
  replace rf := box_frozen R2.out
  have htell : Tells w2 d (.func (.func 63) #[] #[.pointer (some ⟨w.heap.size + 1, 0, none⟩)]) (tabT tt) := fun W b i hW hi =>
    ⟨63, _, by kernel_rfl, at_tab (w.heap.size + 1) b i _ tt W (cell_below hW (box_cells Q2.out 0)) (Hvt.out.below (hw2.trans (hW.mono hw2.size))) (HT1.out b i hi)⟩
  have hdo := do_own P (maskL (natsOf l)) d (tabT tt) (tabT tt) _ _ _ _ _ _ w2 Hd.out (Hp.out.below hb2) m1 m2 htell htell HT2.out
  rw [HPS.out] at hdo
  have Hdo := Lib.hid hdo
  have HOB := Lib.hid (obeys_eq d (tabT tt) (tabT tt) (piecesL d (natsOf l)))
  have HDR := Lib.hid (show sumD ((piecesL d (natsOf l)).map (durP (tabT tt) (tabT tt))) = driveP (tabT tt) (tabT tt) (piecesL d (natsOf l)) from rfl)
  clear htell hdo
  generalize piecesL d (natsOf l) = ps at *
  go_wp2_with fail
  refine Hdo.out.mono ?_
  rintro e w3 ⟨B1, B2, B3, e1, e2, e3, rfl, n1, n2, n3, n4, hb3⟩
  have hW3 : WorkAt w3 (.slice B1 ps.length e1) (.slice B2 (ps.length - 1) e2) (.slice B3 (ps.length - 1) e3) (ps.map (durP (tabT tt) (tabT tt))) (breaksP (tabT tt) (tabT tt) ps) (restsP d (tabT tt) (tabT tt) ps) := ⟨n1, n2, n3⟩
  have HW3 := Lib.hid hW3
  have HO3 := Lib.hid (own_mono n4 hw2.size)
  have hN2 : w.heap.size + 1 + 1 < w2.heap.size := (Array.getElem?_eq_some_iff.1 R2.out).1
  have HO2 := Lib.hid n4
  clear Hdo n1 n2 n3 n4 hW3
  have hw3 := hw2.trans (hb3.mono hw2.size)
  have G3 := Lib.hid (box_step hb3 G2.out)
  replace gc := box_cells G3.out
  replace gf := box_frozen G3.out
  have Q3 := Lib.hid (box_step hb3 Q2.out)
  replace qc := box_cells Q3.out
  replace qf := box_frozen Q3.out
  have R3 := Lib.hid (box_step hb3 R2.out)
  replace rc := box_cells R3.out
  replace rf := box_frozen R3.out
  have Hok := Lib.hid (durs_ok HSO.out.day (by have := HSO.out.len; omega) HT2.out)
  have Hne := Lib.hid (show ps.map (durP (tabT tt) (tabT tt)) ≠ [] by have := HSO.out.ne; simpa using this)
  obtain ⟨SP, hSP⟩ : ∃ S, spreadP d (tabT tt) (tabT tt) ps = S := ⟨_, rfl⟩
  have HSP := Lib.hid hSP
  rw [hSP]
  clear hSP
  go_wp2_with fail
  refine wp_name (fun V => Below w3.heap.size w3 V ∧ V.heap[w3.heap.size]? = some (.cells #[.slice B1 ps.length e1, .slice B2 (ps.length - 1) e2, .slice B3 (ps.length - 1) e3, .int .i64 SP] 158 (0, 0))) ⟨(Below.refl _ _).alloc (Nat.le_refl _) _, heap_alloc_new w3 _⟩ (fun wa hW => ?_)
  obtain ⟨hb4, hwk⟩ := hW
  have Wk := Lib.hid hwk
  have hw4 := hw3.trans (hb4.mono hw3.size)
  have G4 := Lib.hid (box_step hb4 G3.out)
  have Q4 := Lib.hid (box_step hb4 Q3.out)
  have R4 := Lib.hid (box_step hb4 R3.out)
  have HW4 := Lib.hid (HW3.out.below hb4)
  have hN3 : w.heap.size + 1 + 1 < w3.heap.size := (Array.getElem?_eq_some_iff.1 R3.out).1
  have HO4 := Lib.hid (own_below HO2.out hb4)
  clear hwk gc gf qc qf rc rf
  generalize w3.heap.size = N at *
  refine wp_region_noPanic ?_
  refine wp_region_ph [([0, 2, 3, 4, 5, 6, 7, 8], [1, 9, 10, 11, 12])] (fun i => !(i == 11 || i == 12)) (fun w' => Below wa.heap.size wa w') (by kernel_rfl) (by kernel_rfl) (fun _ _ _ _ _ h => h) ?_
  have hB0 : Below wa.heap.size wa wa.drew := (Below.refl _ _).drew
  refine wpPh_cons hB0 (fun hne => ?_)
  have n0 := fun x : Meets (fun w' => Below wa.heap.size wa w') => cell_below x.property (box_cells Wk.out 0)
  have n1 := fun x : Meets (fun w' => Below wa.heap.size wa w') => cell_below x.property (box_cells Wk.out 1)
  have n2 := fun x : Meets (fun w' => Below wa.heap.size wa w') => cell_below x.property (box_cells Wk.out 2)
  have n3 := fun x : Meets (fun w' => Below wa.heap.size wa w') => cell_below x.property (box_cells Wk.out 3)
  have k0 := fun x : Meets (fun w' => Below wa.heap.size wa w') => cell_below x.property (box_cells G4.out 0)
  have k1 := fun x : Meets (fun w' => Below wa.heap.size wa w') => cell_below x.property (box_cells G4.out 1)
  have k2 := fun x : Meets (fun w' => Below wa.heap.size wa w') => cell_below x.property (box_cells G4.out 2)
  have k3 := fun x : Meets (fun w' => Below wa.heap.size wa w') => cell_below x.property (box_cells G4.out 3)
  have k4 := fun x : Meets (fun w' => Below wa.heap.size wa w') => cell_below x.property (box_cells G4.out 4)
  have k5 := fun x : Meets (fun w' => Below wa.heap.size wa w') => cell_below x.property (box_cells G4.out 5)
  have k6 := fun x : Meets (fun w' => Below wa.heap.size wa w') => cell_below x.property (box_cells G4.out 6)
  have k7 := fun x : Meets (fun w' => Below wa.heap.size wa w') => cell_below x.property (box_cells G4.out 7)
  simp only [pick, pickN, List.filterMap_cons, List.filterMap_nil, List.getElem?_cons_zero, List.getElem?_cons_succ, Option.map_some]
  repeat (change wpQuiet _ _ _ _ (_ :: _) _; go_big_quiet_step (fail))
  refine wpQuiet_nil ?_
  clear n0 n1 n2 n3 k0 k1 k2 k3 k4 k5 k6 k7 hne
  refine wpSeqK_step (fun K hK => ?_)
  go_simp
  refine (drive_any _ _ _ SP _ _ _ _ (HW4.out.below hB0) Hok.out).mono ?_
  rintro e v1 ⟨rfl, hc1⟩
  have hB1 := hB0.trans (hc1.mono hB0.size)
  rw [HDR.out]
  refine hK.out _ _ (fun _ => hB1) ?_
  clear hK K
  refine wpSeqK_step (fun K hK => ?_)
  go_simp
  refine (legalW_any d.law _ _ _ SP _ _ _ _ (HW4.out.below hB1) Hok.out Hne.out).mono ?_
  rintro e v2 ⟨rfl, hc2⟩
  have hB2 := hB1.trans (hc2.mono hB1.size)
  have hob2 := HOB.out
  rw [HSP.out] at hob2
  rw [← hob2]
  clear hob2
  refine hK.out _ _ (fun _ => hB2) ?_
  clear hK K
  refine wpSeqK_step (fun K hK => ?_)
  go_simp
  refine hK.out _ _ (fun _ => hB2) ?_
  clear hK K
  have R5 := Lib.hid (box_step hB2 R4.out)
  have rc := box_cells R5.out
  have rf := box_frozen R5.out
  refine wpSeqK_step (fun K hK => ?_)
  go_simp
  refine hK.out _ _ (fun h => by cases h) ?_
  clear hK K rc rf
  have e9 := blk_set (blk_set (blk_set (blk_set R5.out (o := 0) (.int .i64 (driveP (tabT tt) (tabT tt) ps))) (o := 1) (.int .i64 SP)) (o := 2) (.slice B2 (ps.length - 1) e2)) (o := 3) (.bool (obeysB d (tabT tt) (tabT tt) ps))
  simp only [List.setIfInBounds_toArray, List.set_cons_succ, List.set_cons_zero] at e9
  have hw5 := hw4.trans (hB2.mono hw4.size)
  have hw6 := ((((hw5.setCell (p := ⟨w.heap.size + 1 + 1, 0, none⟩) (by simp only; omega) (.int .i64 (driveP (tabT tt) (tabT tt) ps))).setCell (p := ⟨w.heap.size + 1 + 1, 1, none⟩) (by simp only; omega) (.int .i64 SP)).setCell (p := ⟨w.heap.size + 1 + 1, 2, none⟩) (by simp only; omega) (.slice B2 (ps.length - 1) e2)).setCell (p := ⟨w.heap.size + 1 + 1, 3, none⟩) (by simp only; omega) (.bool (obeysB d (tabT tt) (tabT tt) ps)))
  have hnb : NumsAt .i64 ((((v2.setCell ⟨w.heap.size + 1 + 1, 0, none⟩ (.int .i64 (driveP (tabT tt) (tabT tt) ps))).setCell ⟨w.heap.size + 1 + 1, 1, none⟩ (.int .i64 SP)).setCell ⟨w.heap.size + 1 + 1, 2, none⟩ (.slice B2 (ps.length - 1) e2)).setCell ⟨w.heap.size + 1 + 1, 3, none⟩ (.bool (obeysB d (tabT tt) (tabT tt) ps))) (.slice B2 (ps.length - 1) e2) (breaksP (tabT tt) (tabT tt) ps) := by
    refine nums_of_own (base := w2.heap.size) (e := 3) (n := ps.length - 1) ?_
    have h0 := own_below HO4.out hB2
    exact own_setN (own_setN (own_setN (own_setN h0 hN2 _) hN2 _) hN2 _) hN2 _
  refine wpSeqK_step (fun K hK => ?_)
  go_simp
  refine hK.out _ _ (fun h => by cases h) ?_
  clear hK K
  refine wpSeqK_nil ?_
  refine wpPh_nil ?_
  refine NoPanic.normal ?_
  go_wp2
  refine bodyPost_ret (results_cell_row2 rfl _ _ (w.heap.size + 1 + 1) 80 #[.int .i64 (driveP (tabT tt) (tabT tt) ps), .int .i64 SP, .slice B2 (ps.length - 1) e2, .bool (obeysB d (tabT tt) (tabT tt) ps)] (0, 0) _ rfl e9 rfl rfl (by kernel_rfl)) rfl ⟨B2, e2, by rw [HSP.out]; rfl, hnb, hw6⟩
end Go.Proofs.YtckgapeednokjaaGreat
