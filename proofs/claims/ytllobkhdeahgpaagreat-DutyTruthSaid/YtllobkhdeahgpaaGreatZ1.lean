import Derived.Test.YtllobkhdeahgpaaGreatK5
set_option linter.unusedVariables false
set_option linter.unusedSimpArgs false
namespace Go.Proofs.YtllobkhdeahgpaaGreat
open Go Go.Proofs Go.RowKit

/-! ### IsDuty, Lo, Before -/
theorem rd_box_step {w w' : World} {b : Nat} {o : Obj} (hb : Below w.heap.size w w') (h : w.heap[b]? = some o) : w'.heap[b]? = some o := (hb.block b (Array.getElem?_eq_some_iff.1 h).1).trans h
set_option maxRecDepth 100000 in
set_option maxHeartbeats 1600000 in
theorem IsDuty_any (d : DDay) (u z v : Value) (l : List Int) (w : World) (hda : DayAt w u z d) (hd : DayOk d) (hv : NumsAt .i64 w v l) (hl : l.length ≤ 1000) :
    Calls Tryz.prog 23 #[.agg #[.int .i64 d.law.piece, .int .i64 d.law.drive, .int .i64 d.law.spread, .int .i64 d.law.brk, .int .i64 d.law.on, .int .i64 d.law.off, .int .i64 d.law.least, .int .i64 d.law.pieces, u, z], v] w (Gives w (.bool (dutyB (segN d.blocks) l))) := by
  obtain ⟨A1, c1, rfl, _, _⟩ := hda.blocks.form
  obtain ⟨A2, c2, rfl, _, _⟩ := hda.walk.form
  obtain ⟨A3, c3, rfl, hc3, hm3⟩ := hv.form
  have hm := day_mild hd
  have hsn := hd.segs
  have hw0 : Below w.heap.size w (w.alloc (.cells #[.int .i64 d.law.piece, .int .i64 d.law.drive, .int .i64 d.law.spread, .int .i64 d.law.brk, .int .i64 d.law.on, .int .i64 d.law.off, .int .i64 d.law.least, .int .i64 d.law.pieces, .slice A1 d.blocks.length c1, .slice A2 d.walk.length c2] 27)) := (Below.refl _ _).alloc (Nat.le_refl _) _
  have G0 := Lib.hid (heap_alloc_new w (.cells #[.int .i64 d.law.piece, .int .i64 d.law.drive, .int .i64 d.law.spread, .int .i64 d.law.brk, .int .i64 d.law.on, .int .i64 d.law.off, .int .i64 d.law.least, .int .i64 d.law.pieces, .slice A1 d.blocks.length c1, .slice A2 d.walk.length c2] 27 (0, 0)))
  have Hda := Lib.hid hda
  have Hv := Lib.hid hv
  clear hda hv
  go_enter Tryz.func23, Tryz.ntmps23
  go_wp2
  go_loopw [5] (fun i wr => ∃ k : Nat, k ≤ l.length ∧ i = .int .i64 k ∧ Below w.heap.size w wr ∧ wr.heap[w.heap.size]? = some (.cells #[.int .i64 d.law.piece, .int .i64 d.law.drive, .int .i64 d.law.spread, .int .i64 d.law.brk, .int .i64 d.law.on, .int .i64 d.law.off, .int .i64 d.law.least, .int .i64 d.law.pieces, .slice A1 d.blocks.length c1, .slice A2 d.walk.length c2] 27 (0, 0)) ∧ OkTo (segN d.blocks) l k) (fun i wr => l.length - (intOf i).toNat)
  case atStart => exact ⟨0, by omega, rfl, hw0, G0.out, fun i x hi => by omega, fun i x y hi => by omega⟩
  case round =>
    obtain ⟨k, hk, rfl, hb, hbx, hok⟩ := hrel
    obtain ⟨wo, rfl⟩ : ∃ wo : World, wo = wr := ⟨_, rfl⟩
    have Hbx := Lib.hid hbx
    have Hok := Lib.hid hok
    clear hbx hok
    by_cases hlt : k < l.length
    · obtain ⟨b, o, y, rfl, hy, cy, _⟩ := (Hv.out.below hb).at_ hlt
      have hkI : (k : Int) < (l.length : Int) := by omega
      have f0 := Later.cell (w := wo) (box_cells Hbx.out 0)
      have f1 := Later.cell (w := wo) (box_cells Hbx.out 1)
      have f2 := Later.cell (w := wo) (box_cells Hbx.out 2)
      have f3 := Later.cell (w := wo) (box_cells Hbx.out 3)
      have f4 := Later.cell (w := wo) (box_cells Hbx.out 4)
      have f5 := Later.cell (w := wo) (box_cells Hbx.out 5)
      have f6 := Later.cell (w := wo) (box_cells Hbx.out 6)
      have f7 := Later.cell (w := wo) (box_cells Hbx.out 7)
      have f8 := Later.cell (w := wo) (box_cells Hbx.out 8)
      have f9 := Later.cell (w := wo) (box_cells Hbx.out 9)
      have fy := Later.cell cy
      have hdo := Hda.out.below hb
      have hwo := hb
      cases hin : inB y 0 ((segN d.blocks : Int) - 1) with
      | false =>
        have hno : dutyB (segN d.blocks) l = false := by
          cases hq : dutyB (segN d.blocks) l with
          | false => rfl
          | true =>
            have := (dutyB_iff.1 hq).rng k y hy
            rw [Bool.eq_false_iff] at hin
            exact absurd (inB_iff.2 (by omega)) hin
        have Hno := Lib.hid hno
        clear hno hy
        go_wp2_with fail
        refine wp_region_later (by kernel_rfl) (by kernel_rfl) ?_
        repeat (go_big_quiet_step ((first | (go_at_call 11; exact Later.call (Segments_any d _ _ _ (hdo.below (Subtype.property _)) hm)) | (go_at_call 48; exact Later.call (In_any _ _ _ _)))))
        refine wpQuiet_nil ?_
        intro w2 hx2
        have hb2 := Later.out hx2
        clear hx2 f0 f1 f2 f3 f4 f5 f6 f7 f8 f9 fy hin
        go_wp2
        go_ret
        exact gives_bool Hno.out.symm (hwo.trans (hb2.mono hwo.size))
      | true =>
        have hrg := inB_iff.1 hin
        by_cases hk0 : k = 0
        · have hkd : decide (0 < k) = false := by simpa using hk0
          have Hnx := Lib.hid (okTo_first (n := segN d.blocks) (l := l) (x := y) (by rw [← hk0]; exact hy) (by omega))
          have Hk0 := Lib.hid hk0
          clear hy hk0 hrg
          go_wp2_with fail
          refine wp_region_later (by kernel_rfl) (by kernel_rfl) ?_
          repeat (go_big_quiet_step ((first | (go_at_call 11; exact Later.call (Segments_any d _ _ _ (hdo.below (Subtype.property _)) hm)) | (go_at_call 48; exact Later.call (In_any _ _ _ _)))))
          refine wpQuiet_nil ?_
          intro w2 hx2
          have hb2 := Later.out hx2
          clear hx2 f0 f1 f2 f3 f4 f5 f6 f7 f8 f9 fy hin
          go_wp2
          go_roundw
          case rel => exact ⟨k + 1, by omega, by go_num, hwo.trans (hb2.mono hwo.size), rd_box_step hb2 Hbx.out, by rw [Hk0.out]; exact Hnx.out⟩
          case measure => simp [intOf]; omega
        · obtain ⟨j, hj⟩ : ∃ j, k = j + 1 := ⟨k - 1, by omega⟩
          obtain ⟨b', o', t, e, ht, ct, _⟩ := (Hv.out.below hb).at_ (k := j) (by omega)
          cases e
          have hkd : decide (0 < k) = true := by simp; omega
          have q1 : IntKind.i64.wrap ((k : Int) - 1) = (j : Int) := by rw [IntWalk.i64_in _ (by omega)]; omega
          have q2 : (j : Int) < (l.length : Int) := by omega
          have q3 : (k : Int) - 1 = (j : Int) := by omega
          have ft := Later.cell ct
          by_cases hle : y ≤ t
          · have hq : decide (y ≤ t) = true := by simpa using hle
            have hno : dutyB (segN d.blocks) l = false := by
              cases hq : dutyB (segN d.blocks) l with
              | false => rfl
              | true =>
                have := (dutyB_iff.1 hq).rise j t y ht (by rw [← hj]; exact hy)
                omega
            have Hno := Lib.hid hno
            clear hno hy ht hj hk0 hrg
            go_wp2_with fail
            refine wp_region_later (by kernel_rfl) (by kernel_rfl) ?_
            repeat (go_big_quiet_step ((first | (go_at_call 11; exact Later.call (Segments_any d _ _ _ (hdo.below (Subtype.property _)) hm)) | (go_at_call 48; exact Later.call (In_any _ _ _ _)))))
            refine wpQuiet_nil ?_
            intro w2 hx2
            have hb2 := Later.out hx2
            clear hx2 f0 f1 f2 f3 f4 f5 f6 f7 f8 f9 fy ft hin
            go_wp2
            go_ret
            exact gives_bool Hno.out.symm (hwo.trans (hb2.mono hwo.size))
          · have hq : decide (y ≤ t) = false := by simpa using hle
            have Hnx := Lib.hid (okTo_step (n := segN d.blocks) (k := j) (by rw [← hj]; exact Hok.out) ht (by rw [← hj]; exact hy) (by omega) (by omega))
            have Hj := Lib.hid hj
            clear hy ht hj hk0 hle hrg
            go_wp2_with fail
            refine wp_region_later (by kernel_rfl) (by kernel_rfl) ?_
            repeat (go_big_quiet_step ((first | (go_at_call 11; exact Later.call (Segments_any d _ _ _ (hdo.below (Subtype.property _)) hm)) | (go_at_call 48; exact Later.call (In_any _ _ _ _)))))
            refine wpQuiet_nil ?_
            intro w2 hx2
            have hb2 := Later.out hx2
            clear hx2 f0 f1 f2 f3 f4 f5 f6 f7 f8 f9 fy ft hin
            go_wp2
            go_roundw
            case rel => exact ⟨k + 1, by omega, by go_num, hwo.trans (hb2.mono hwo.size), rd_box_step hb2 Hbx.out, by rw [Hj.out]; exact Hnx.out⟩
            case measure => simp [intOf]; omega
    · obtain rfl : k = l.length := by omega
      have hkI : ¬ (l.length : Int) < (l.length : Int) := by omega
      have hfin : dutyB (segN d.blocks) l = decide (0 < (l.length : Int)) := by
        by_cases h0 : l = []
        · subst h0; rfl
        · rw [dutyB_iff.2 (okTo_all Hok.out h0)]
          have := List.length_pos_iff.2 h0
          simp
          omega
      have Hfin := Lib.hid hfin
      clear hfin
      go_wp2
      go_ret
      exact gives_bool (by rw [Hfin.out]; simp) hb
set_option maxRecDepth 100000 in
theorem Lo_any (d : DDay) (u z : Value) (b i : Nat) (w : World) (hda : DayAt w u z d) (hi : InDay d b i) :
    Calls Tryz.prog 74 #[.agg #[.int .i64 d.law.piece, .int .i64 d.law.drive, .int .i64 d.law.spread, .int .i64 d.law.brk, .int .i64 d.law.on, .int .i64 d.law.off, .int .i64 d.law.least, .int .i64 d.law.pieces, u, z], .int .i64 (b : Int), .int .i64 (i : Int)] w (Gives w (.int .i64 (loT d.blocks b i))) := by
  obtain ⟨A1, c1, rfl, _, _⟩ := hda.blocks.form
  have hw0 : Below w.heap.size w (w.alloc (.cells #[.int .i64 d.law.piece, .int .i64 d.law.drive, .int .i64 d.law.spread, .int .i64 d.law.brk, .int .i64 d.law.on, .int .i64 d.law.off, .int .i64 d.law.least, .int .i64 d.law.pieces, .slice A1 d.blocks.length c1, z] 27)) := (Below.refl _ _).alloc (Nat.le_refl _) _
  obtain ⟨B, o, B', o', m, c', rfl, r0, hm, hB, hB', r1, r2, r3⟩ := rel_cells (hda.below hw0).blocks hi
  have h1 : (b : Int) < (d.blocks.length : Int) := by have := hi.1; omega
  have h2 : (i : Int) < (m : Int) := by omega
  generalize loT d.blocks b i = X at *
  go_enter Tryz.func74, Tryz.ntmps74
  go_wp2
  go_ret
  exact ⟨rfl, hw0⟩
end Go.Proofs.YtllobkhdeahgpaaGreat
