import Derived.Test.YtllobkhdeahgpaaGreatZ9
set_option linter.unusedVariables false
set_option linter.unusedSimpArgs false
namespace Go.Proofs.YtllobkhdeahgpaaGreat
open Go Go.Proofs Go.RowKit

/-! ### Weight, RightWeights -/
theorem sumL_small {M : Int} (hM : 0 ≤ M) : ∀ (l : List Int), (∀ x ∈ l, 0 ≤ x ∧ x ≤ M) → 0 ≤ sumL l ∧ sumL l ≤ l.length * M
  | [], _ => by simp [sumL]
  | x :: t, h => by
    have h1 := h x (List.mem_cons_self ..)
    have h2 := sumL_small hM t fun y hy => h y (List.mem_cons_of_mem _ hy)
    simp only [sumL, List.length_cons]
    push_cast
    rw [Int.add_mul]
    omega
theorem wgL_small {ws : List Int} (hw : ∀ x ∈ ws, 0 ≤ x ∧ x ≤ 1000000) (l : List Nat) : 0 ≤ wgL ws l ∧ wgL ws l ≤ l.length * 1000000 := by
  have h := sumL_small (M := 1000000) (by omega) (l.map fun s => ws[s]?.getD 0) fun x hx => by
    obtain ⟨s, _, rfl⟩ := List.mem_map.1 hx
    cases e : ws[s]? with
    | none => simp
    | some y => exact hw y (List.mem_of_getElem? e)
  rw [List.length_map] at h
  exact h
set_option maxRecDepth 100000 in
set_option maxHeartbeats 1600000 in
theorem Weight_ref (v vl : Value) (ws : List Int) (l : List Nat) (w : World) (hv : NumsAt .i64 w v ws) (hvl : NumsAt .i64 w vl (natsI l)) (hw : ∀ x ∈ ws, 0 ≤ x ∧ x ≤ 1000000) (hl : ∀ s ∈ l, s < ws.length) (hn : l.length ≤ 1000) :
    Calls Tryz.prog 19 #[v, vl] w (Gives w (.int .i64 (wgL ws l))) := by
  obtain ⟨A1, c1, rfl, hc1, hm1⟩ := hv.form
  obtain ⟨A2, c2, rfl, hc2, hm2⟩ := hvl.form
  have Hv := Lib.hid hv
  have Hvl := Lib.hid hvl
  have Hw := Lib.hid hw
  have Hl := Lib.hid hl
  have hnl := natsI_len l
  rw [hnl] at Hvl ⊢
  clear hv hvl hw hl hnl hc2
  go_enter Tryz.func19, Tryz.ntmps19
  go_wp2
  go_loopw [5, 6] (fun s i wr => ∃ k : Nat, k ≤ l.length ∧ i = .int .i64 k ∧ s = .int .i64 (wgL ws (l.take k)) ∧ Below w.heap.size w wr) (fun s i wr => l.length - (intOf i).toNat)
  case atStart => exact ⟨0, by omega, rfl, rfl, Below.refl _ _⟩
  case round =>
    obtain ⟨k, hk, rfl, rfl, hbr⟩ := hrel
    by_cases hlt : k < l.length
    · obtain ⟨b, o, y, rfl, hy, cy, _⟩ := (Hvl.out.below hbr).at_ (k := k) (by rw [natsI_len]; exact hlt)
      obtain ⟨s, rfl, hs⟩ := natsI_get hy
      have hsl := Hl.out s (List.mem_of_getElem? hs)
      obtain ⟨b2, o2, x, rfl, hx, cx, _⟩ := (Hv.out.below hbr).at_ hsl
      have hst := wgL_take hs hx
      have hb1 := wgL_small Hw.out (l.take k)
      rw [List.length_take] at hb1
      have hxb := Hw.out x (List.mem_of_getElem? hx)
      have Hst := Lib.hid hst
      have k1 : (k : Int) < (l.length : Int) := by omega
      have k2 : (s : Int) < (ws.length : Int) := by omega
      generalize hS : wgL ws (l.take k) = S at *
      have k3 : IntKind.i64.wrap (S + x) = S + x := IntWalk.i64_in _ (by omega)
      clear hst hS hy hs hx
      go_wp2
      go_roundw
      case rel => exact ⟨k + 1, by omega, by go_num, by rw [Hst.out], hbr⟩
      case measure => simp [intOf]; omega
    · obtain rfl : k = l.length := by omega
      rw [List.take_length]
      go_wp2
      go_ret
      exact ⟨rfl, hbr⟩
set_option maxRecDepth 100000 in
set_option maxHeartbeats 1600000 in
theorem RightWeights_ref (d : DDay) (u z v : Value) (ws : List Int) (w : World) (hda : DayAt w u z d) (hm : Mild d) (hv : NumsAt .i64 w v ws) (hn : ws.length ≤ 1000) :
    Calls Tryz.prog 17 #[.agg #[.int .i64 d.law.piece, .int .i64 d.law.drive, .int .i64 d.law.spread, .int .i64 d.law.brk, .int .i64 d.law.on, .int .i64 d.law.off, .int .i64 d.law.least, .int .i64 d.law.pieces, u, z], v] w (Gives w (.bool (capB d ws))) := by
  obtain ⟨A1, c1, rfl, _, _⟩ := hda.blocks.form
  obtain ⟨A2, c2, rfl, _, _⟩ := hda.walk.form
  obtain ⟨A3, c3, rfl, hc3, hm3⟩ := hv.form
  have hw0 : Below w.heap.size w (w.alloc (.cells #[.int .i64 d.law.piece, .int .i64 d.law.drive, .int .i64 d.law.spread, .int .i64 d.law.brk, .int .i64 d.law.on, .int .i64 d.law.off, .int .i64 d.law.least, .int .i64 d.law.pieces, .slice A1 d.blocks.length c1, .slice A2 d.walk.length c2] 27)) := (Below.refl _ _).alloc (Nat.le_refl _) _
  have G0 := Lib.hid (heap_alloc_new w (.cells #[.int .i64 d.law.piece, .int .i64 d.law.drive, .int .i64 d.law.spread, .int .i64 d.law.brk, .int .i64 d.law.on, .int .i64 d.law.off, .int .i64 d.law.least, .int .i64 d.law.pieces, .slice A1 d.blocks.length c1, .slice A2 d.walk.length c2] 27 (0, 0)))
  have Hda := Lib.hid hda
  have Hv := Lib.hid hv
  clear hda hv
  go_enter Tryz.func17, Tryz.ntmps17
  go_wp2
  go_loopw [5] (fun i wr => ∃ k : Nat, k ≤ ws.length ∧ i = .int .i64 k ∧ Below w.heap.size w wr ∧ wr.heap[w.heap.size]? = some (.cells #[.int .i64 d.law.piece, .int .i64 d.law.drive, .int .i64 d.law.spread, .int .i64 d.law.brk, .int .i64 d.law.on, .int .i64 d.law.off, .int .i64 d.law.least, .int .i64 d.law.pieces, .slice A1 d.blocks.length c1, .slice A2 d.walk.length c2] 27 (0, 0)) ∧ ((ws.take k).all fun x => inB x 0 1000000) = true) (fun i wr => ws.length - (intOf i).toNat)
  case atStart => exact ⟨0, by omega, rfl, hw0, G0.out, by simp⟩
  case round =>
    obtain ⟨k, hk, rfl, hb, hbx, hall⟩ := hrel
    have Hbx := Lib.hid hbx
    have Hall := Lib.hid hall
    have gc := box_cells Hbx.out
    have gf := box_frozen Hbx.out
    clear hbx hall
    by_cases hlt : k < ws.length
    · obtain ⟨b, o, y, rfl, hy, cy, _⟩ := (Hv.out.below hb).at_ hlt
      have k1 : (k : Int) < (ws.length : Int) := by omega
      have Hy := Lib.hid hy
      clear hy
      cases hin : inB y 0 1000000 with
      | false =>
        have hno : capB d ws = false := by
          unfold capB
          rw [Bool.and_eq_false_iff]
          right
          rw [Bool.eq_false_iff]
          intro h
          have := List.all_eq_true.1 h y (List.mem_of_getElem? Hy.out)
          rw [hin] at this
          cases this
        have Hno := Lib.hid hno
        have Hin := Lib.hid hin
        clear hno hin
        go_wp2_with (go_at_call 48; refine (Gives.to Hin.out (In_any _ _ _ _)).mono ?_; rintro e w1 ⟨rfl, hb1⟩)
        go_ret
        exact ⟨by rw [Hno.out]; rfl, hb.trans (hb1.mono hb.size)⟩
      | true =>
        have Hin := Lib.hid hin
        clear hin
        go_wp2_with (go_at_call 48; refine (Gives.to Hin.out (In_any _ _ _ _)).mono ?_; rintro e w1 ⟨rfl, hb1⟩)
        go_roundw
        case rel =>
          refine ⟨k + 1, by omega, by go_num, hb.trans (hb1.mono hb.size), rd_box_step hb1 Hbx.out, ?_⟩
          rw [List.take_add_one, Hy.out, List.all_append, Hall.out]
          simpa using Hin.out
        case measure => simp [intOf]; omega
    · obtain rfl : k = ws.length := by omega
      have hfin : capB d ws = decide (ws.length = segN d.blocks) := by
        unfold capB
        have := Hall.out
        rw [List.take_length] at this
        rw [this, Bool.and_true]
      have Hfin := Lib.hid hfin
      clear hfin
      go_wp2_with fail
      refine (Segments_any d _ _ _ (Hda.out.below hb) hm).mono ?_
      rintro e w1 ⟨rfl, hb1⟩
      go_wp2_with fail
      go_ret
      refine ⟨?_, hb.trans (hb1.mono hb.size)⟩
      have e : ((ws.length : Int) == (segN d.blocks : Int)) = decide (ws.length = segN d.blocks) := by
        rw [Bool.eq_iff_iff]
        simp only [beq_iff_eq, decide_eq_true_eq]
        omega
      rw [Hfin.out, ← e]
      rfl
end Go.Proofs.YtllobkhdeahgpaaGreat
