import Derived.Test.YtckgapeednokjaaGreatK6
import Derived.Test.YtckgapeednokjaaGreatK4
set_option linter.unusedVariables false
set_option linter.unusedSimpArgs false
namespace Go.Proofs.YtckgapeednokjaaGreat
open Go Go.Proofs Go.RowKit

/-! ### Fault -/
theorem f1_law {d : DDay} (hL : ¬ (6 < d.blocks.length ∨ 5 < d.walk.length ∨ 10 < segN d.blocks)) (h : lawB d.law = false) : faultD d = 1 := by rw [fault_eq hL, h]; rfl
theorem f1_num {d : DDay} (hL : ¬ (6 < d.blocks.length ∨ 5 < d.walk.length ∨ 10 < segN d.blocks)) {x : Int} (hx : x ∈ law7 d.law) (h : inB x 0 3000 = false) : faultD d = 1 := by
  refine f1_law hL ?_
  rw [lawB_eq, List.all_eq_false.2 ⟨x, hx, by simp [h]⟩]
  rfl
theorem f1_walk {d : DDay} (hL : ¬ (6 < d.blocks.length ∨ 5 < d.walk.length ∨ 10 < segN d.blocks)) (h : walksB d.walk = false) : faultD d = 1 := by rw [fault_eq hL, h]; simp
theorem f1_block {d : DDay} (hL : ¬ (6 < d.blocks.length ∨ 5 < d.walk.length ∨ 10 < segN d.blocks)) {b : Nat} {l : List Rel} (hl : d.blocks[b]? = some l) (h : blockB d.walk.length l = false) : faultD d = 1 := by
  rw [fault_eq hL, List.all_eq_false.2 ⟨l, List.mem_of_getElem? hl, by simp [h]⟩]
  simp
set_option maxRecDepth 100000 in
set_option maxHeartbeats 3200000 in
theorem Fault_limit (d : DDay) (u z : Value) (w : World) (hda : DayAt w u z d) (hm : Mild d) (hf : 6 < d.blocks.length ∨ 5 < d.walk.length ∨ 10 < segN d.blocks) :
    Calls Tryz.prog 21 #[.agg #[.int .i64 d.law.piece, .int .i64 d.law.drive, .int .i64 d.law.spread, .int .i64 d.law.brk, .int .i64 d.law.on, .int .i64 d.law.off, .int .i64 d.law.least, .int .i64 d.law.pieces, u, z]] w (Gives w (.int .i64 (faultD d))) := by
  obtain ⟨A1, c1, rfl, hc1, hm1⟩ := hda.blocks.form
  obtain ⟨A2, c2, rfl, hc2, hm2⟩ := hda.walk.form
  have hb0 : Below w.heap.size w (w.alloc (.cells #[.int .i64 d.law.piece, .int .i64 d.law.drive, .int .i64 d.law.spread, .int .i64 d.law.brk, .int .i64 d.law.on, .int .i64 d.law.off, .int .i64 d.law.least, .int .i64 d.law.pieces, .slice A1 d.blocks.length c1, .slice A2 d.walk.length c2] 63)) := (Below.refl _ _).alloc (Nat.le_refl _) _
  have Hs := Lib.hid (Segments_any d _ _ _ (hda.below hb0) hm)
  rw [fault_3 hf]
  clear hda
  by_cases h1 : 6 < d.blocks.length
  · have h1I : (6 : Int) < (d.blocks.length : Int) := by omega
    clear hf
    go_enter Tryz.func21, Tryz.ntmps21
    go_wp2
    go_ret
    exact ⟨rfl, hb0⟩
  · have h1I : ¬ (6 : Int) < (d.blocks.length : Int) := by omega
    by_cases h2 : 5 < d.walk.length
    · have h2I : (5 : Int) < (d.walk.length : Int) := by omega
      clear hf
      go_enter Tryz.func21, Tryz.ntmps21
      go_wp2
      go_ret
      exact ⟨rfl, hb0⟩
    · have h2I : ¬ (5 : Int) < (d.walk.length : Int) := by omega
      have h3I : (10 : Int) < (segN d.blocks : Int) := by omega
      clear hf
      go_enter Tryz.func21, Tryz.ntmps21
      go_wp2_with (go_at_call 52; refine Hs.out.mono ?_; rintro e w1 ⟨rfl, hb1⟩)
      go_ret
      exact ⟨rfl, hb0.trans (hb1.mono hb0.size)⟩
set_option maxRecDepth 100000 in
set_option maxHeartbeats 3200000 in
theorem Fault_any (d : DDay) (u z : Value) (w : World) (hda : DayAt w u z d) (hm : Mild d) (hL : ¬ (6 < d.blocks.length ∨ 5 < d.walk.length ∨ 10 < segN d.blocks)) :
    Calls Tryz.prog 21 #[.agg #[.int .i64 d.law.piece, .int .i64 d.law.drive, .int .i64 d.law.spread, .int .i64 d.law.brk, .int .i64 d.law.on, .int .i64 d.law.off, .int .i64 d.law.least, .int .i64 d.law.pieces, u, z]] w (Gives w (.int .i64 (faultD d))) := by
  obtain ⟨A1, c1, rfl, hc1, hm1⟩ := hda.blocks.form
  obtain ⟨A2, c2, rfl, hc2, hm2⟩ := hda.walk.form
  have hb0 : Below w.heap.size w (w.alloc (.cells #[.int .i64 d.law.piece, .int .i64 d.law.drive, .int .i64 d.law.spread, .int .i64 d.law.brk, .int .i64 d.law.on, .int .i64 d.law.off, .int .i64 d.law.least, .int .i64 d.law.pieces, .slice A1 d.blocks.length c1, .slice A2 d.walk.length c2] 63)) := (Below.refl _ _).alloc (Nat.le_refl _) _
  have Hs := Lib.hid (Segments_any d _ _ _ (hda.below hb0) hm)
  have Hda := Lib.hid hda
  have h1I : ¬ (6 : Int) < (d.blocks.length : Int) := by omega
  have h2I : ¬ (5 : Int) < (d.walk.length : Int) := by omega
  have h3I : ¬ (10 : Int) < (segN d.blocks : Int) := by omega
  have HL := Lib.hid hL
  clear hda hL
  go_enter Tryz.func21, Tryz.ntmps21
  go_wp2_with (go_at_call 52; refine Hs.out.mono ?_; rintro e w1 ⟨rfl, hb1⟩; obtain ⟨gc, gf⟩ := bcell hb1)
  have hw1 := hb0.trans (hb1.mono hb0.size)
  have hsz : w.heap.size < w1.heap.size := by have := hb1.size; simp at this; omega
  have hst : Below w.heap.size w ((w1.alloc (.cells #[.int .i64 d.law.piece, .int .i64 d.law.drive, .int .i64 d.law.spread, .int .i64 d.law.brk, .int .i64 d.law.on, .int .i64 d.law.off, .int .i64 d.law.least, .int .i64 d.law.pieces] 50)).alloc (.cells #[.int .i64 d.law.piece, .int .i64 d.law.drive, .int .i64 d.law.spread, .int .i64 d.law.brk, .int .i64 d.law.on, .int .i64 d.law.off, .int .i64 d.law.least] 3)) := (hw1.alloc hw1.size _).alloc (by have := hw1.size; simp; omega) _
  refine wp_name (fun W => Below w.heap.size w W ∧ W.cell? ⟨w.heap.size, 8, none⟩ = some (.slice A1 d.blocks.length c1) ∧ W.cell? ⟨w.heap.size, 9, none⟩ = some (.slice A2 d.walk.length c2) ∧ W.cell? ⟨w1.heap.size, 3, none⟩ = some (.int .i64 d.law.brk) ∧ W.cell? ⟨w1.heap.size, 7, none⟩ = some (.int .i64 d.law.pieces) ∧ NumsAt .i64 W (.slice (some ⟨w1.heap.size + 1, 0, none⟩) 7 7) (law7 d.law)) ?_ (fun W hW => ?_)
  · refine ⟨hst, ?_, ?_, ?_, ?_, ?_⟩
    · simp [go_sem, hsz, gc, show w.heap.size ≠ w1.heap.size + 1 by omega, show w.heap.size ≠ w1.heap.size by omega]
    · simp [go_sem, hsz, gc, show w.heap.size ≠ w1.heap.size + 1 by omega, show w.heap.size ≠ w1.heap.size by omega]
    · simp [go_sem]
    · simp [go_sem]
    · have h := nums_new (w1.alloc (.cells #[.int .i64 d.law.piece, .int .i64 d.law.drive, .int .i64 d.law.spread, .int .i64 d.law.brk, .int .i64 d.law.on, .int .i64 d.law.off, .int .i64 d.law.least, .int .i64 d.law.pieces] 50)) (law7 d.law) 3 (by simp [law7, maxLen])
      simpa [law7] using h
  obtain ⟨hbW, g8, g9, g3, g7, hnum⟩ := hW
  clear hst gc gf hb1 hw1 hsz
  generalize w1.heap.size + 1 = E at *
  generalize w1.heap.size = C at *
  clear Hs hb0
  go_loop [5] (fun i => ∃ k : Nat, k ≤ 7 ∧ i = .int .i64 k ∧ ∀ (j : Nat) (x : Int), j < k → (law7 d.law)[j]? = some x → inB x 0 3000 = true) (fun i => 7 - (intOf i).toNat)
  case atStart => exact ⟨0, by omega, rfl, by intro j x h; omega⟩
  case round =>
    obtain ⟨k, hk, rfl, hall⟩ := hrel
    have Hall := Lib.hid hall
    clear hall
    by_cases hlt : k < 7
    · obtain ⟨b, o, x, e, hx, dx, _⟩ := hnum.at_ (k := k) (by simpa [law7] using hlt)
      cases e
      rw [Nat.zero_add] at dx
      cases hin : inB x 0 3000 with
      | false =>
        have Hf := Lib.hid (f1_num HL.out (List.mem_of_getElem? hx) hin)
        have Hin := Lib.hid hin
        clear hin hx
        go_wp2_with (go_at_call 53; refine (Same.to Hin.out (In_same _ _ _ _)).mono ?_; rintro e w2 ⟨rfl, rfl⟩)
        go_ret
        exact gives_int Hf.out.symm hbW
      | true =>
        have Hx := Lib.hid hx
        have Hin := Lib.hid hin
        clear hin hx
        go_wp2_with (go_at_call 53; refine (Same.to Hin.out (In_same _ _ _ _)).mono ?_; rintro e w2 ⟨rfl, rfl⟩)
        go_round
        case rel =>
          refine ⟨k + 1, by omega, by go_num, fun j y hj hy => ?_⟩
          by_cases e : j = k
          · subst e
            rw [Hx.out] at hy
            cases hy
            exact Hin.out
          · exact Hall.out j y (by omega) hy
        case measure => simp [intOf]; omega
    · obtain rfl : k = 7 := by omega
      have h7 : (law7 d.law).all (fun x => inB x 0 3000) = true := all_of fun j x hj hx => Hall.out j x (by simpa [law7] using hj) hx
      have hlb := lawB_eq d.law
      rw [h7, Bool.true_and] at hlb
      have hbk : 0 ≤ d.law.brk := by
        have := Hall.out 3 d.law.brk (by omega) rfl
        exact (inB_iff.1 this).1
      clear h7 Hall hnum
      by_cases hb0 : d.law.brk = 0
      · have Hf := Lib.hid (f1_law HL.out (by rw [hlb, hb0]; rfl))
        have hbz : (d.law.brk == 0) = true := by simp [hb0]
        clear hlb hbk hb0
        go_wp2
        go_ret
        exact gives_int Hf.out.symm hbW
      · have hbz : (d.law.brk == 0) = false := by simp [hb0]
        rw [show decide (0 < d.law.brk) = true by simp; omega, Bool.true_and] at hlb
        clear hb0 hbk
        cases hpc : inB d.law.pieces 1 3 with
        | false =>
          have Hf := Lib.hid (f1_law HL.out (by rw [hlb, hpc]))
          have Hpc := Lib.hid hpc
          clear hlb hpc
          go_wp2_with (go_at_call 53; refine (Same.to Hpc.out (In_same _ _ _ _)).mono ?_; rintro e w2 ⟨rfl, rfl⟩)
          go_ret
          exact gives_int Hf.out.symm hbW
        | true =>
          have Hlb := Lib.hid (hlb.trans hpc)
          have Hpc := Lib.hid hpc
          clear hlb hpc
          by_cases hwz : d.walk.length = 0
          · have hwd : ((d.walk.length : Int) == 0) = true := by simp [hwz]
            have Hf := Lib.hid (f1_walk HL.out (by unfold walksB; rw [hwz]; simp))
            clear hwz
            go_wp2_with (go_at_call 53; refine (Same.to Hpc.out (In_same _ _ _ _)).mono ?_; rintro e w2 ⟨rfl, rfl⟩)
            go_ret
            exact gives_int Hf.out.symm hbW
          · have hwd : ((d.walk.length : Int) == 0) = false := by rw [Bool.eq_false_iff]; simp only [beq_iff_eq, ne_eq]; omega
            have hwp : 0 < d.walk.length := by omega
            clear hwz
            go_wp2_with (go_at_call 53; refine (Same.to Hpc.out (In_same _ _ _ _)).mono ?_; rintro e w2 ⟨rfl, rfl⟩)
            clear g3 g7
            go_loopw [6] (fun i wr => ∃ k : Nat, k ≤ d.walk.length ∧ i = .int .i64 k ∧ Below W.heap.size W wr ∧ ∀ a, a < k → rowOk d.walk.length a (d.walk[a]?.getD []) = true) (fun i wr => d.walk.length - (intOf i).toNat)
            case atStart => exact ⟨0, by omega, rfl, Below.refl _ _, by omega⟩
            case round =>
              obtain ⟨k, hk, rfl, hb, hall⟩ := hrel
              have Hall := Lib.hid hall
              clear hall
              have hbw := hbW.trans (hb.mono hbW.size)
              have k8 := cell_below hb g8
              have k9 := cell_below hb g9
              by_cases hlt : k < d.walk.length
              · obtain ⟨b, o, row, u, rfl, hr, c0, hrow, hblt⟩ := (Hda.out.walk.below hbw).at_ hlt
                obtain ⟨A3, c3, rfl, hc3, hm3⟩ := hrow.form
                have hrl := hm.row k row hr
                have Hrow := Lib.hid (show d.walk[k]?.getD [] = row by rw [hr]; rfl)
                have Hno := Lib.hid (fun h : rowOk d.walk.length k row = false => f1_walk HL.out (walks_no hlt (by rw [Hrow.out]; exact h)))
                clear hr
                have f9 := Later.cell k9
                have f0 := Later.cell c0
                have i0 : (k : Int) < (d.walk.length : Int) := by omega
                by_cases h1 : row.length = d.walk.length
                · obtain ⟨b2, o2, x, rfl, hx, d0, hbx⟩ := hrow.at_ (k := k) (by omega)
                  have f1 := Later.cell d0
                  have hd : ((row.length : Int) != (d.walk.length : Int)) = false := by simp [h1]
                  have i1 : (k : Int) < (row.length : Int) := by omega
                  have Hx := Lib.hid hx
                  have H1 := Lib.hid h1
                  clear hx h1
                  cases hx0 : (x != 0) with
                  | true =>
                    have Hf := Lib.hid (Hno.out (by unfold rowOk; rw [Hx.out, Option.getD_some, show (x == 0) = false by simpa using hx0]; simp))
                    go_wp2_with fail
                    refine wp_region_later (by kernel_rfl) (by kernel_rfl) ?_
                    repeat (go_big_quiet_step (fail))
                    refine wpQuiet_nil ?_
                    intro w2 hx2
                    have hb2 := Later.out hx2
                    clear hx2 f9 f0 f1
                    go_wp2
                    go_ret
                    exact gives_int Hf.out.symm (hbw.trans (hb2.mono hbw.size))
                  | false =>
                    have Hx0 := Lib.hid (show x = 0 by simpa using hx0)
                    go_wp2_with fail
                    refine wp_region_later (by kernel_rfl) (by kernel_rfl) ?_
                    repeat (go_big_quiet_step (fail))
                    refine wpQuiet_nil ?_
                    intro w2 hx2
                    have hb2 := Later.out hx2
                    clear hx2 f9 f0 f1
                    replace k8 := cell_below hb2 k8
                    replace k9 := cell_below hb2 k9
                    replace c0 := cell_below hb2 c0
                    have hrow2 := hrow.below hb2
                    go_wp2
                    go_loop [7] (fun i => ∃ m : Nat, m ≤ d.walk.length ∧ i = .int .i64 m ∧ ∀ (j : Nat) (y : Int), j < m → row[j]? = some y → inB y 0 3000 = true) (fun i => d.walk.length - (intOf i).toNat)
                    case atStart => exact ⟨0, by omega, rfl, by intro j y h; omega⟩
                    case round =>
                      obtain ⟨m, hm0, rfl, hal⟩ := hrel
                      have Hal := Lib.hid hal
                      clear hal
                      have hrl1 : row.length = d.walk.length := H1.out
                      by_cases hlm : m < d.walk.length
                      · obtain ⟨b3, o3, y, e, hy, d3, _⟩ := hrow2.at_ (k := m) (by omega)
                        cases e
                        have j1 : (m : Int) < (row.length : Int) := by omega
                        cases hin : inB y 0 3000 with
                        | false =>
                          have Hf := Lib.hid (Hno.out (by unfold rowOk; rw [show (row.all fun x => inD x 0 3000) = false from not_all_of hy hin]; simp))
                          have Hin := Lib.hid hin
                          clear hin hy hrl1
                          go_wp2_with (go_at_call 53; refine (Same.to Hin.out (In_same _ _ _ _)).mono ?_; rintro e w3 ⟨rfl, rfl⟩)
                          go_ret
                          exact gives_int Hf.out.symm (hbw.trans (hb2.mono hbw.size))
                        | true =>
                          have Hy := Lib.hid hy
                          have Hin := Lib.hid hin
                          clear hin hy hrl1
                          go_wp2_with (go_at_call 53; refine (Same.to Hin.out (In_same _ _ _ _)).mono ?_; rintro e w3 ⟨rfl, rfl⟩)
                          go_round
                          case rel =>
                            refine ⟨m + 1, by omega, by go_num, fun j y hj hy => ?_⟩
                            by_cases e : j = m
                            · subst e
                              rw [Hy.out] at hy
                              cases hy
                              exact Hin.out
                            · exact Hal.out j y (by omega) hy
                          case measure => simp [intOf]; omega
                      · obtain rfl : m = d.walk.length := by omega
                        have Hy := Lib.hid (show rowOk d.walk.length k row = true by
                          unfold rowOk
                          rw [show (row.all fun x => inD x 0 3000) = true from all_of fun j s hj hs => Hal.out j s (by omega) hs, H1.out, Hx.out, Option.getD_some, Hx0.out]
                          simp)
                        clear hrl1
                        go_wp2
                        go_roundw
                        case rel =>
                          refine ⟨k + 1, by omega, by go_num, hb.trans (hb2.mono hb.size), fun i hi => ?_⟩
                          by_cases e : i = k
                          · subst e; rw [Hrow.out]; exact Hy.out
                          · exact Hall.out i (by omega)
                        case measure => simp [intOf]; omega
                · have hd : ((row.length : Int) != (d.walk.length : Int)) = true := by simp; omega
                  have Hf := Lib.hid (Hno.out (by unfold rowOk; rw [decide_eq_false h1]; rfl))
                  clear h1
                  go_wp2_with fail
                  refine wp_region_later (by kernel_rfl) (by kernel_rfl) ?_
                  repeat (go_big_quiet_step (fail))
                  refine wpQuiet_nil ?_
                  intro w2 hx2
                  have hb2 := Later.out hx2
                  clear hx2 f9 f0
                  go_wp2
                  go_ret
                  exact gives_int Hf.out.symm (hbw.trans (hb2.mono hbw.size))
              · obtain rfl : k = d.walk.length := by omega
                have hwk : walksB d.walk = true := by rw [walks_yes Hall.out]; simpa using hwp
                have Hwk := Lib.hid hwk
                clear hwk Hall
                obtain ⟨wo, rfl⟩ : ∃ wo : World, wo = wr := ⟨_, rfl⟩
                go_wp2
                go_loopw [8] (fun i wr => ∃ k : Nat, k ≤ d.blocks.length ∧ i = .int .i64 k ∧ Below wo.heap.size wo wr ∧ ∀ (j : Nat) (l : List Rel), j < k → d.blocks[j]? = some l → blockB d.walk.length l = true) (fun i wr => d.blocks.length - (intOf i).toNat)
                case atStart => exact ⟨0, by omega, rfl, Below.refl _ _, by intro j l h; omega⟩
                case round =>
                  obtain ⟨k, hk, rfl, hb3, hall⟩ := hrel
                  have Hall := Lib.hid hall
                  clear hall
                  obtain ⟨wp, rfl⟩ : ∃ wp : World, wp = wr := ⟨_, rfl⟩
                  have hbq := hbw.trans (hb3.mono hbw.size)
                  have p8 := cell_below hb3 k8
                  have p9 := cell_below hb3 k9
                  by_cases hlt : k < d.blocks.length
                  · obtain ⟨b, o, l, u, rfl, hl, c0, hrs, hblt⟩ := (Hda.out.blocks.below hbq).at_ hlt
                    obtain ⟨A3, c3, rfl, hc3, hm3⟩ := hrs.form
                    have hll := hm.block k l hl
                    have Hl := Lib.hid hl
                    have Hno := Lib.hid (fun h : blockB d.walk.length l = false => f1_block HL.out Hl.out h)
                    clear hl
                    by_cases h2 : l.length < 2
                    · have h2I : (l.length : Int) < 2 := by omega
                      have Hf := Lib.hid (Hno.out (by unfold blockB; rw [decide_eq_false (by omega : ¬ 2 ≤ l.length)]; simp))
                      go_wp2
                      go_ret
                      exact gives_int Hf.out.symm hbq
                    · have h2I : ¬ (l.length : Int) < 2 := by omega
                      go_wp2
                      go_loopw [10] (fun i wr => ∃ m : Nat, m ≤ l.length ∧ i = .int .i64 m ∧ Below wp.heap.size wp wr ∧ (∀ (j : Nat) (r : Rel), j < m → l[j]? = some r → reliefB d.walk.length r = true) ∧ RiseTo l m) (fun i wr => l.length - (intOf i).toNat)
                      case atStart => exact ⟨0, by omega, rfl, Below.refl _ _, by intro j r h; omega, by intro i r s hi; omega⟩
                      case round =>
                        obtain ⟨m, hm0, rfl, hb4, hre, hri⟩ := hrel
                        have Hre := Lib.hid hre
                        have Hri := Lib.hid hri
                        clear hre hri
                        obtain ⟨wq, rfl⟩ : ∃ wq : World, wq = wr := ⟨_, rfl⟩
                        have hbr := hbq.trans (hb4.mono hbq.size)
                        have q8 := cell_below hb4 p8
                        have q9 := cell_below hb4 p9
                        have hrq := hrs.below hb4
                        by_cases hlm : m < l.length
                        · obtain ⟨b2, o2, r, rfl, hr, r0, r1, r2, hbl⟩ := hrq.at_ hlm
                          have Hr := Lib.hid hr
                          clear hr
                          have j0 : (m : Int) < (l.length : Int) := by omega
                          have f9 := Later.cell q9
                          have f0 := Later.cell r0
                          have f1 := Later.cell r1
                          have f2 := Later.cell r2
                          have hw5 := hm.walk
                          obtain ⟨c1', hc1'⟩ : ∃ c, inB r.place 0 ((d.walk.length : Int) - 1) = c := ⟨_, rfl⟩
                          obtain ⟨c2', hc2'⟩ : ∃ c, inB r.lo 0 r.hi = c := ⟨_, rfl⟩
                          have Hc1 := Lib.hid hc1'
                          have Hc2 := Lib.hid hc2'
                          clear hc1' hc2'
                          have hrB : reliefB d.walk.length r = (c1' && (c2' && !decide (3000 < r.hi))) := by
                            rw [reliefB_eq, ← Hc1.out, ← Hc2.out]
                            congr 1
                            rw [Bool.eq_iff_iff]
                            simp only [Bool.and_eq_true, decide_eq_true_eq, inB_iff, Bool.not_eq_true', decide_eq_false_iff_not]
                            omega
                          have HrB := Lib.hid hrB
                          have Hno2 := Lib.hid (fun h : reliefB d.walk.length r = false => Hno.out (by unfold blockB; rw [show l.all (reliefB d.walk.length) = false from not_all_of Hr.out h]; simp))
                          clear hrB
                          cases c1' with
                          | false =>
                            have Hf := Lib.hid (Hno2.out (by rw [HrB.out]; rfl))
                            have q1 := Hc1.out
                            have q2 := Hc2.out
                            go_wp2_with fail
                            refine wp_region_later (by kernel_rfl) (by kernel_rfl) ?_
                            repeat (go_big_quiet_step ((go_at_call 53; exact Later.call (In_any _ _ _ _))))
                            refine wpQuiet_nil ?_
                            intro w5 hx5
                            have hb5 := Later.out hx5
                            clear hx5 f9 f0 f1 f2
                            go_wp2
                            go_ret
                            exact gives_int Hf.out.symm (hbr.trans (hb5.mono hbr.size))
                          | true =>
                            cases c2' with
                            | false =>
                              have Hf := Lib.hid (Hno2.out (by rw [HrB.out]; rfl))
                              have q1 := Hc1.out
                              have q2 := Hc2.out
                              go_wp2_with fail
                              refine wp_region_later (by kernel_rfl) (by kernel_rfl) ?_
                              repeat (go_big_quiet_step ((go_at_call 53; exact Later.call (In_any _ _ _ _))))
                              refine wpQuiet_nil ?_
                              intro w5 hx5
                              have hb5 := Later.out hx5
                              clear hx5 f9 f0 f1 f2
                              go_wp2
                              go_ret
                              exact gives_int Hf.out.symm (hbr.trans (hb5.mono hbr.size))
                            | true =>
                              by_cases h3 : 3000 < r.hi
                              · have Hf := Lib.hid (Hno2.out (by rw [HrB.out, decide_eq_true h3]; rfl))
                                have q1 := Hc1.out
                                have q2 := Hc2.out
                                go_wp2_with fail
                                refine wp_region_later (by kernel_rfl) (by kernel_rfl) ?_
                                repeat (go_big_quiet_step ((go_at_call 53; exact Later.call (In_any _ _ _ _))))
                                refine wpQuiet_nil ?_
                                intro w5 hx5
                                have hb5 := Later.out hx5
                                clear hx5 f9 f0 f1 f2
                                go_wp2
                                go_ret
                                exact gives_int Hf.out.symm (hbr.trans (hb5.mono hbr.size))
                              · have Hok := Lib.hid (show reliefB d.walk.length r = true by rw [HrB.out, decide_eq_false h3]; rfl)
                                have q1 := Hc1.out
                                have q2 := Hc2.out
                                go_wp2_with fail
                                refine wp_region_later (by kernel_rfl) (by kernel_rfl) ?_
                                repeat (go_big_quiet_step ((go_at_call 53; exact Later.call (In_any _ _ _ _))))
                                refine wpQuiet_nil ?_
                                intro w5 hx5
                                have hb5 := Later.out hx5
                                clear hx5 f9 f0 f1 f2 q1 q2
                                replace q8 := cell_below hb5 q8
                                replace q9 := cell_below hb5 q9
                                replace r0 := cell_below hb5 r0
                                replace r1 := cell_below hb5 r1
                                replace r2 := cell_below hb5 r2
                                have hbs := hbr.trans (hb5.mono hbr.size)
                                have hb45 := hb4.trans (hb5.mono hb4.size)
                                by_cases hm1 : m = 0
                                · have hmd : decide (0 < m) = false := by simpa using hm1
                                  have Hm1 := Lib.hid hm1
                                  clear hm1
                                  go_wp2_with fail
                                  refine wp_region_later (by kernel_rfl) (by kernel_rfl) ?_
                                  repeat (go_big_quiet_step (fail))
                                  refine wpQuiet_nil ?_
                                  intro w6 hx6
                                  have hb6 := Later.out hx6
                                  clear hx6
                                  go_wp2
                                  go_roundw
                                  case rel =>
                                    refine ⟨m + 1, by omega, by go_num, hb45.trans (hb6.mono hb45.size), fun j r' hj hr' => ?_, fun i a b hi => ?_⟩
                                    · by_cases e : j = m
                                      · subst e
                                        rw [Hr.out] at hr'
                                        cases hr'
                                        exact Hok.out
                                      · exact Hre.out j r' (by omega) hr'
                                    · have := Hm1.out
                                      omega
                                  case measure => simp [intOf]; omega
                                · obtain ⟨j, hj⟩ : ∃ j, m = j + 1 := ⟨m - 1, by omega⟩
                                  obtain ⟨b3, o3, s, e, hs, s0, s1, s2, _⟩ := (hrq.below hb5).at_ (k := j) (by omega)
                                  cases e
                                  have hmd : decide (0 < m) = true := by simp; omega
                                  have e1 : IntKind.i64.wrap ((m : Int) - 1) = (j : Int) := by rw [IntWalk.i64_in _ (by omega)]; omega
                                  have e2 : (j : Int) < (l.length : Int) := by omega
                                  have e3 : 0 ≤ (m : Int) - 1 := by omega
                                  have e4 : (m : Int) - 1 = (j : Int) := by omega
                                  have f1 := Later.cell r1
                                  have f2 := Later.cell r2
                                  have f3 := Later.cell s1
                                  have f4 := Later.cell s2
                                  have Hs := Lib.hid hs
                                  have Hj := Lib.hid hj
                                  clear hs hj hm1
                                  have Hno3 := Lib.hid (fun h : r.lo < s.lo ∨ r.hi < s.hi => Hno.out (by unfold blockB; rw [riseTo_not (k := j) Hs.out (by rw [← Hj.out]; exact Hr.out) h]; rfl))
                                  by_cases h4 : r.lo < s.lo
                                  · have Hf := Lib.hid (Hno3.out (.inl h4))
                                    go_wp2_with fail
                                    refine wp_region_later (by kernel_rfl) (by kernel_rfl) ?_
                                    repeat (go_big_quiet_step (fail))
                                    refine wpQuiet_nil ?_
                                    intro w6 hx6
                                    have hb6 := Later.out hx6
                                    clear hx6 f1 f2 f3 f4
                                    go_wp2
                                    go_ret
                                    exact gives_int Hf.out.symm (hbs.trans (hb6.mono hbs.size))
                                  · have q4 : decide (r.lo < s.lo) = false := decide_eq_false h4
                                    by_cases h5 : r.hi < s.hi
                                    · have Hf := Lib.hid (Hno3.out (.inr h5))
                                      go_wp2_with fail
                                      refine wp_region_later (by kernel_rfl) (by kernel_rfl) ?_
                                      repeat (go_big_quiet_step (fail))
                                      refine wpQuiet_nil ?_
                                      intro w6 hx6
                                      have hb6 := Later.out hx6
                                      clear hx6 f1 f2 f3 f4
                                      go_wp2
                                      go_ret
                                      exact gives_int Hf.out.symm (hbs.trans (hb6.mono hbs.size))
                                    · have Hri2 := Lib.hid (riseTo_step (k := j) (by rw [← Hj.out]; exact Hri.out) Hs.out (by rw [← Hj.out]; exact Hr.out) h4 h5)
                                      have q5 : decide (r.hi < s.hi) = false := decide_eq_false h5
                                      go_wp2_with fail
                                      refine wp_region_later (by kernel_rfl) (by kernel_rfl) ?_
                                      repeat (go_big_quiet_step (fail))
                                      refine wpQuiet_nil ?_
                                      intro w6 hx6
                                      have hb6 := Later.out hx6
                                      clear hx6 f1 f2 f3 f4
                                      go_wp2
                                      go_roundw
                                      case rel =>
                                        refine ⟨m + 1, by omega, by go_num, hb45.trans (hb6.mono hb45.size), fun i r' hi hr' => ?_, by rw [Hj.out]; exact Hri2.out⟩
                                        by_cases e : i = m
                                        · subst e
                                          rw [Hr.out] at hr'
                                          cases hr'
                                          exact Hok.out
                                        · exact Hre.out i r' (by omega) hr'
                                      case measure => simp [intOf]; omega
                        · obtain rfl : m = l.length := by omega
                          have Hok := Lib.hid (show blockB d.walk.length l = true by
                            unfold blockB
                            rw [riseTo_all Hri.out, all_of fun j r hj hr => Hre.out j r hj hr]
                            simp; omega)
                          go_wp2
                          go_roundw
                          case rel =>
                            refine ⟨k + 1, by omega, by go_num, hb3.trans (hb4.mono hb3.size), fun j l' hj hl' => ?_⟩
                            by_cases e : j = k
                            · subst e
                              rw [Hl.out] at hl'
                              cases hl'
                              exact Hok.out
                            · exact Hall.out j l' (by omega) hl'
                          case measure => simp [intOf]; omega
                  · obtain rfl : k = d.blocks.length := by omega
                    have Hf := Lib.hid (show faultD d = 0 by
                      rw [fault_eq HL.out, Hlb.out, Hwk.out, all_of fun j l hj hl => Hall.out j l hj hl]
                      rfl)
                    go_wp2
                    go_ret
                    exact gives_int Hf.out.symm hbq
end Go.Proofs.YtckgapeednokjaaGreat
namespace Go.Proofs.YtckgapeednokjaaGreat
open Go Go.Proofs Go.RowKit

/-! ### The day of the examples -/
def mondayL : DLaw := ⟨240, 420, 600, 30, 10, 10, 300, 2⟩
def mondayD : DDay := ⟨mondayL, [[⟨0, 300, 300⟩, ⟨1, 420, 430⟩, ⟨0, 530, 550⟩, ⟨0, 650, 670⟩], [⟨0, 400, 400⟩, ⟨1, 500, 510⟩, ⟨0, 600, 620⟩]], [[0, 5], [5, 0]]⟩
theorem nums_pairN {W : World} {b : Nat} {x y : Int} (h0 : W.cell? ⟨b, 0, none⟩ = some (.int .i64 x)) (h1 : W.cell? ⟨b, 1, none⟩ = some (.int .i64 y)) : NumsAt .i64 W (.slice (some ⟨b, 0, none⟩) 2 2) [x, y] := by
  refine ⟨_, 2, rfl, by simp, by simp [maxLen], fun _ => ⟨b, 0, rfl, fun k hk => ?_⟩⟩
  match k, hk with
  | 0, _ => simpa using h0
  | 1, _ => simpa using h1
theorem rows_two {W : World} {b : Nat} {u v : Value} {l m : List Int} (h0 : W.cell? ⟨b, 0, none⟩ = some u) (h1 : W.cell? ⟨b, 1, none⟩ = some v) (hu : NumsAt .i64 W u l) (hv : NumsAt .i64 W v m) : RowsAt W (.slice (some ⟨b, 0, none⟩) 2 2) [l, m] := by
  refine ⟨_, 2, rfl, by simp, by simp [maxLen], fun _ => ⟨b, 0, rfl, fun k hk => ?_⟩⟩
  match k, hk with
  | 0, _ => exact ⟨u, by simpa using h0, hu⟩
  | 1, _ => exact ⟨v, by simpa using h1, hv⟩
theorem blocks_two {W : World} {b : Nat} {u v : Value} {l m : List Rel} (h0 : W.cell? ⟨b, 0, none⟩ = some u) (h1 : W.cell? ⟨b, 1, none⟩ = some v) (hu : RelsAt W u l) (hv : RelsAt W v m) : BlocksAt W (.slice (some ⟨b, 0, none⟩) 2 2) [l, m] := by
  refine ⟨_, 2, rfl, by simp, by simp [maxLen], fun _ => ⟨b, 0, rfl, fun k r hk => ?_⟩⟩
  match k, hk with
  | 0, hk => cases hk; exact ⟨u, by simpa using h0, hu⟩
  | 1, hk => cases hk; exact ⟨v, by simpa using h1, hv⟩
theorem rels_cells {W : World} {b n : Nat} {l : List Rel} (hn : l.length = n) (hm : n ≤ maxLen) (h : ∀ k r, l[k]? = some r → W.cell? ⟨b, k * 3, none⟩ = some (.int .i64 r.place) ∧ W.cell? ⟨b, k * 3 + 1, none⟩ = some (.int .i64 r.lo) ∧ W.cell? ⟨b, k * 3 + 2, none⟩ = some (.int .i64 r.hi)) : RelsAt W (.slice (some ⟨b, 0, none⟩) n n) l := by
  subst hn
  exact ⟨_, _, rfl, Nat.le_refl _, hm, fun _ => ⟨b, 0, rfl, fun k r hk => by simpa using h k r hk⟩⟩
def GivesDay (L : DLaw) (d : DDay) (w : World) (e : Ending) (w' : World) : Prop :=
  ∃ A1 A2 c1 c2, e = .returned (.agg #[.int .i64 L.piece, .int .i64 L.drive, .int .i64 L.spread, .int .i64 L.brk, .int .i64 L.on, .int .i64 L.off, .int .i64 L.least, .int .i64 L.pieces, .slice A1 d.blocks.length c1, .slice A2 d.walk.length c2]) ∧ DayAt w' (.slice A1 d.blocks.length c1) (.slice A2 d.walk.length c2) d ∧ Below w.heap.size w w'
end Go.Proofs.YtckgapeednokjaaGreat
namespace Go.Proofs.YtckgapeednokjaaGreat
open Go Go.Proofs Go.RowKit

/-! ### Thin, ready, light -/
theorem FaultR_any (d : DDay) (u z : Value) (w : World) (hda : DayAt w u z d) (hm : Mild d) :
    Calls Tryz.prog 21 #[.agg #[.int .i64 d.law.piece, .int .i64 d.law.drive, .int .i64 d.law.spread, .int .i64 d.law.brk, .int .i64 d.law.on, .int .i64 d.law.off, .int .i64 d.law.least, .int .i64 d.law.pieces, u, z]] w (Gives w (.int .i64 (faultD d))) := by
  by_cases hL : 6 < d.blocks.length ∨ 5 < d.walk.length ∨ 10 < segN d.blocks
  · exact Fault_limit d u z w hda hm hL
  · exact Fault_any d u z w hda hm hL
def thinD (d : DDay) : Bool := decide (d.blocks.length ≤ 10) && (d.blocks.all (fun l => decide (l.length ≤ 14)) && (decide (d.walk.length ≤ 8) && shortB d.walk))
theorem thin_mild {d : DDay} (h : thinD d = true) : Mild d := by
  simp only [thinD, shortB, Bool.and_eq_true, decide_eq_true_eq, List.all_eq_true] at h
  obtain ⟨h1, h2, h3, h4, h5⟩ := h
  exact ⟨by omega, fun b x hx => by have := h2 x (List.mem_of_getElem? hx); omega, by omega, fun b x hx => by have := h5 x (List.mem_of_getElem? hx); omega⟩
set_option maxRecDepth 100000 in
theorem Thin_any (d : DDay) (u z : Value) (w : World) (hda : DayAt w u z d) :
    Calls Tryz.prog 20 #[.agg #[.int .i64 d.law.piece, .int .i64 d.law.drive, .int .i64 d.law.spread, .int .i64 d.law.brk, .int .i64 d.law.on, .int .i64 d.law.off, .int .i64 d.law.least, .int .i64 d.law.pieces, u, z]] w (Gives w (.bool (thinD d))) := by
  obtain ⟨A1, c1, rfl, hc1, hm1⟩ := hda.blocks.form
  obtain ⟨A2, c2, rfl, hc2, hm2⟩ := hda.walk.form
  have hb0 : Below w.heap.size w (w.alloc (.cells #[.int .i64 d.law.piece, .int .i64 d.law.drive, .int .i64 d.law.spread, .int .i64 d.law.brk, .int .i64 d.law.on, .int .i64 d.law.off, .int .i64 d.law.least, .int .i64 d.law.pieces, .slice A1 d.blocks.length c1, .slice A2 d.walk.length c2] 63)) := (Below.refl _ _).alloc (Nat.le_refl _) _
  have Hs := Lib.hid (shortR_any _ d.walk _ (hda.walk.below hb0))
  have hv1 := hda.blocks.below hb0
  clear hda
  go_enter Tryz.func20, Tryz.ntmps20
  go_wp2
  go_loop [3] (fun i => ∃ k : Nat, k ≤ d.blocks.length ∧ k ≤ 11 ∧ i = .int .i64 k ∧ (∀ (j : Nat) (l : List Rel), j < k → d.blocks[j]? = some l → l.length ≤ 14)) (fun i => d.blocks.length - (intOf i).toNat)
  case atStart => exact ⟨0, by omega, by omega, rfl, by intro j s h; omega⟩
  case round =>
    obtain ⟨k, hk, hk13, rfl, hall⟩ := hrel
    have Hall := Lib.hid hall
    clear hall
    by_cases hlt : k < d.blocks.length
    · by_cases h13 : k < 11
      · obtain ⟨b, o, l, x, rfl, hl, dl, hx, _⟩ := hv1.at_ hlt
        obtain ⟨A', c', rfl, hc', hm'⟩ := hx.form
        have Hl := Lib.hid hl
        clear hl
        have hk0 : (k : Int) < 11 := by omega
        by_cases h14 : l.length ≤ 14
        · have q14 : (l.length : Int) ≤ 14 := by omega
          go_wp2
          go_round
          case rel =>
            refine ⟨k + 1, by omega, by omega, by go_num, fun j s hj hs => ?_⟩
            by_cases e : j = k
            · subst e
              rw [Hl.out] at hs
              cases hs
              omega
            · exact Hall.out j s (by omega) hs
          case measure => simp [intOf]; omega
        · have q14 : 14 < (l.length : Int) := by omega
          go_wp2
          go_ret
          refine gives_bool ?_ hb0
          rw [thinD, not_all_of Hl.out (by simp; omega)]
          simp
      · go_wp2
        go_ret
        refine gives_bool ?_ hb0
        rw [thinD, decide_eq_false (by omega : ¬ d.blocks.length ≤ 10)]
        rfl
    · by_cases h12 : d.blocks.length ≤ 10
      · have q1 : (d.blocks.length : Int) ≤ 10 := by omega
        have Ha := Lib.hid (show thinD d = (decide (d.walk.length ≤ 8) && shortB d.walk) by
          rw [thinD, decide_eq_true h12, all_of fun j s hj hs => by simpa using Hall.out j s (by omega) hs]
          rfl)
        by_cases h8 : d.walk.length ≤ 8
        · have q2 : (d.walk.length : Int) ≤ 8 := by omega
          have Hb := Lib.hid (Ha.out.trans (by rw [decide_eq_true h8, Bool.true_and]))
          generalize shortB d.walk = S at *
          go_wp2_with (go_at_call 51; refine Hs.out.mono ?_; rintro e w1 ⟨rfl, hb1⟩)
          go_ret
          exact gives_bool Hb.out.symm (hb0.trans (hb1.mono hb0.size))
        · have q2 : decide ((d.walk.length : Int) ≤ 8) = false := by simp; omega
          have Hb := Lib.hid (Ha.out.trans (by rw [decide_eq_false h8, Bool.false_and]))
          go_wp2
          go_ret
          exact gives_bool Hb.out.symm hb0
      · have q1 : decide ((d.blocks.length : Int) ≤ 10) = false := by simp; omega
        go_wp2
        go_ret
        refine gives_bool ?_ hb0
        rw [thinD, decide_eq_false h12]
        rfl
def readyB (d : DDay) : Bool := thinD d && faultD d == 0
def lightB (d : DDay) : Bool := readyB d && decide (segN d.blocks ≤ 8)
theorem ready_ok {d : DDay} (h : readyB d = true) : thinD d = true ∧ Mild d ∧ (faultD d != 0) = false ∧ faultD d = 0 := by
  simp only [readyB, Bool.and_eq_true, beq_iff_eq] at h
  exact ⟨h.1, thin_mild h.1, by simp [h.2], h.2⟩
end Go.Proofs.YtckgapeednokjaaGreat
namespace Go.Proofs.YtckgapeednokjaaGreat
open Go Go.Proofs Go.RowKit

/-! ### The first examples -/
theorem monday_ok : (faultD mondayD != 0) = false := by decide +kernel
theorem monday_legal : legalQ mondayD [0, 2] = true ∧ askE mondayD [0, 2] = 0 ∧ legalQ mondayD [0, 1] = false ∧ askE mondayD [0, 1] = 0 := by decide +kernel
theorem monday_bound : boundQ mondayD [1000, 1000, 0, 1000, 0] = (3, 0) := by decide +kernel
theorem monday_best : (bestV mondayD).can = true ∧ (bestV mondayD).pay = 990 ∧ (bestP mondayD).length = 3 := by decide +kernel
theorem monday_mild : Mild mondayD := day_mild (fault_ok monday_ok)
theorem nums_five {W : World} {b : Nat} {x y z u v : Int} (h0 : W.cell? ⟨b, 0, none⟩ = some (.int .i64 x)) (h1 : W.cell? ⟨b, 1, none⟩ = some (.int .i64 y)) (h2 : W.cell? ⟨b, 2, none⟩ = some (.int .i64 z)) (h3 : W.cell? ⟨b, 3, none⟩ = some (.int .i64 u)) (h4 : W.cell? ⟨b, 4, none⟩ = some (.int .i64 v)) : NumsAt .i64 W (.slice (some ⟨b, 0, none⟩) 5 5) [x, y, z, u, v] := by
  refine ⟨_, 5, rfl, by simp, by simp [maxLen], fun _ => ⟨b, 0, rfl, fun k hk => ?_⟩⟩
  match k, hk with
  | 0, _ => simpa using h0
  | 1, _ => simpa using h1
  | 2, _ => simpa using h2
  | 3, _ => simpa using h3
  | 4, _ => simpa using h4
theorem legal_02 (u z v : Value) (w : World) (hda : DayAt w u z mondayD) (hv : NumsAt .i64 w v [0, 2]) : Calls Tryz.prog 45 #[.agg #[.int .i64 mondayL.piece, .int .i64 mondayL.drive, .int .i64 mondayL.spread, .int .i64 mondayL.brk, .int .i64 mondayL.on, .int .i64 mondayL.off, .int .i64 mondayL.least, .int .i64 mondayL.pieces, u, z], v] w (Gives w (.tuple #[.bool true, .int .i64 0])) := by
  have h := Legal_any mondayD u z v [0, 2] w hda monday_mild hv (by simp)
  rw [monday_legal.1, monday_legal.2.1] at h
  exact h
theorem legal_01 (u z v : Value) (w : World) (hda : DayAt w u z mondayD) (hv : NumsAt .i64 w v [0, 1]) : Calls Tryz.prog 45 #[.agg #[.int .i64 mondayL.piece, .int .i64 mondayL.drive, .int .i64 mondayL.spread, .int .i64 mondayL.brk, .int .i64 mondayL.on, .int .i64 mondayL.off, .int .i64 mondayL.least, .int .i64 mondayL.pieces, u, z], v] w (Gives w (.tuple #[.bool false, .int .i64 0])) := by
  have h := Legal_any mondayD u z v [0, 1] w hda monday_mild hv (by simp)
  rw [monday_legal.2.2.1, monday_legal.2.2.2] at h
  exact h
theorem best_mon (u z : Value) (w : World) (hda : DayAt w u z mondayD) : Calls Tryz.prog 22 #[.agg #[.int .i64 mondayL.piece, .int .i64 mondayL.drive, .int .i64 mondayL.spread, .int .i64 mondayL.brk, .int .i64 mondayL.on, .int .i64 mondayL.off, .int .i64 mondayL.least, .int .i64 mondayL.pieces, u, z]] w fun e w' => (∃ A c, e = .returned (.tuple #[.slice A 3 c, .int .i64 990, .int .i64 0])) ∧ Below w.heap.size w w' :=
  (Best_any mondayD u z w hda monday_mild).mono fun e w' h => by
    obtain ⟨A, c, he, _⟩ := h.2.2.2 monday_ok monday_best.1
    rw [monday_best.2.1, monday_best.2.2] at he
    exact ⟨⟨A, c, he⟩, h.1⟩
end Go.Proofs.YtckgapeednokjaaGreat
namespace Go.Proofs.YtckgapeednokjaaGreat
open Go Go.Proofs Go.RowKit

/-! ### Rows of rows of reliefs that one owns -/
def relC (r : Rel) : List Value := [.int .i64 r.place, .int .i64 r.lo, .int .i64 r.hi]
def relCells (l : List Rel) : List Value := l.flatMap relC
theorem relCells_snoc (l : List Rel) (r : Rel) : relCells (l ++ [r]) = relCells l ++ relC r := by simp [relCells]
theorem rels_of_own {w : World} {v : Value} {base : Nat} {e : TypeId} {n : Nat} {l : List Rel} (h : w.ownsRow base e 3 v n (relCells l)) : RelsAt w v l := by
  have hlen : (relCells l).length = l.length * 3 := flat_length (f := relC) (n := 3) (fun _ => rfl) l
  have hn : l.length = n := by have := h.1; omega
  rcases h.2 with ⟨rfl, h0⟩ | ⟨g, cap, cur, rfl, _, hg, hc, hm, hs, ht⟩
  · have : l.length = 0 := by omega
    exact ⟨none, 0, by rw [this], by omega, by simp [maxLen], fun hp => by omega⟩
  · refine ⟨some ⟨g, 0, none⟩, cap, by rw [hn], by omega, hm, fun hp => ⟨g, 0, rfl, fun k s hk => ?_⟩⟩
    have hk' := (List.getElem?_eq_some_iff.1 hk).1
    have key : ∀ j, j < 3 → w.cell? ⟨g, 0 + k * 3 + j, none⟩ = (relC s)[j]? := fun j hj => by
      rw [Nat.zero_add, h.cellAt (k * 3 + j) (by omega)]
      exact flat_get (f := relC) (n := 3) (fun _ => rfl) hk hj
    exact ⟨key 0 (by omega), key 1 (by omega), key 2 (by omega)⟩
def RelsOwn (w : World) (base : Nat) (us : List Value) (ll : List (List Rel)) : Prop :=
  us.length = ll.length ∧ ∀ (j : Nat) (l : List Rel), ll[j]? = some l → ∃ u, us[j]? = some u ∧ w.ownsRow base 118 3 u l.length (relCells l)
theorem RelsOwn.kept {w w' : World} {base base' : Nat} {us : List Value} {ll : List (List Rel)} {v : Value} {e : TypeId} {n : Nat} {xs : List Value} {size : Nat} (h : RelsOwn w base us ll) (hv : w.ownsRow base' e size v n xs) (hne : e ≠ 118)
    (hg : w.grownBy w' v.ownBlock) : RelsOwn w' base us ll :=
  ⟨h.1, fun j l hl => by
    obtain ⟨u, h1, h2⟩ := h.2 j l hl
    exact ⟨u, h1, h2.kept hg (own_apart h2 hv (Ne.symm hne))⟩⟩
theorem RelsOwn.below {w w' : World} {base : Nat} {us : List Value} {ll : List (List Rel)} (h : RelsOwn w base us ll) (hb : Below w.heap.size w w') : RelsOwn w' base us ll :=
  ⟨h.1, fun j l hl => by
    obtain ⟨u, h1, h2⟩ := h.2 j l hl
    exact ⟨u, h1, own_below h2 hb⟩⟩
theorem RelsOwn.set {w : World} {base P o : Nat} {us : List Value} {ll : List (List Rel)} {cur : Array Value} {t : TypeId} {fr : Nat × Nat} (h : RelsOwn w base us ll) (hP : w.heap[P]? = some (.cells cur t fr)) (hne : 118 ≠ t) (u : Value) : RelsOwn (w.setCell ⟨P, o, none⟩ u) base us ll :=
  ⟨h.1, fun j l hl => by
    obtain ⟨x, h1, h2⟩ := h.2 j l hl
    exact ⟨x, h1, own_set h2 (own_not h2 hP hne) u⟩⟩
theorem RowsOwn.set {w : World} {base P o : Nat} {us : List Value} {ll : List (List Int)} {cur : Array Value} {t : TypeId} {fr : Nat × Nat} (h : RowsOwn w base us ll) (hP : w.heap[P]? = some (.cells cur t fr)) (hne : 3 ≠ t) (u : Value) : RowsOwn (w.setCell ⟨P, o, none⟩ u) base us ll :=
  ⟨h.1, fun j l hl => by
    obtain ⟨x, h1, h2⟩ := h.2 j l hl
    exact ⟨x, h1, own_set h2 (own_not h2 hP hne) u⟩⟩
theorem RelsOwn.snoc {w : World} {base : Nat} {us : List Value} {ll : List (List Rel)} {u : Value} {l : List Rel} (h : RelsOwn w base us ll) (hu : w.ownsRow base 118 3 u l.length (relCells l)) : RelsOwn w base (us ++ [u]) (ll ++ [l]) := by
  refine ⟨by simp [h.1], fun j l' hl => ?_⟩
  rw [List.getElem?_append] at hl
  split at hl
  · obtain ⟨x, h1, h2⟩ := h.2 j l' hl
    exact ⟨x, by rw [List.getElem?_append_left (by rw [h.1]; assumption)]; exact h1, h2⟩
  · rename_i hj
    have e : j = ll.length := by
      have := (List.getElem?_eq_some_iff.1 hl).1
      simp at this
      omega
    subst e
    simp at hl
    subst hl
    exact ⟨u, by rw [← h.1]; simp, hu⟩
theorem blocks_of_own {w : World} {base base' : Nat} {e : TypeId} {v : Value} {n : Nat} {us : List Value} {ll : List (List Rel)} (h : w.ownsRow base e 1 v n us) (hr : RelsOwn w base' us ll) : BlocksAt w v ll := by
  have hn : ll.length = n := by rw [← hr.1]; simpa using h.1
  rcases h.2 with ⟨rfl, h0⟩ | ⟨g, cap, cur, rfl, _, hg, hc, hm, hs, ht⟩
  · have : ll.length = 0 := by omega
    exact ⟨none, 0, by rw [this], by omega, by simp [maxLen], fun hp => by omega⟩
  · refine ⟨some ⟨g, 0, none⟩, cap, by rw [hn], by omega, hm, fun hp => ⟨g, 0, rfl, fun k l hk => ?_⟩⟩
    have hk' := (List.getElem?_eq_some_iff.1 hk).1
    obtain ⟨u, h1, h2⟩ := hr.2 k l hk
    refine ⟨u, ?_, rels_of_own h2⟩
    simp only [Nat.zero_add]
    rw [h.cellAt k (by omega), h1]
theorem infoRel : (Tryz.prog.info? 118).map (fun i => (i.zero, i.size, i.bytes)) = some (some (.agg #[.int .i64 0, .int .i64 0, .int .i64 0]), 3, 24) := by kernel_rfl
theorem infoBl : (Tryz.prog.info? 119).map (fun i => (i.zero, i.size, i.bytes)) = some (some (.slice none 0 0), 1, 24) := by kernel_rfl
/-! ### Day -/
theorem grown_setB {w w' : World} {B : Nat} (h : w.grownBy w' (some B)) (o : Nat) (u : Value) : w.grownBy (w'.setCell ⟨B, o, none⟩ u) (some B) :=
  ⟨h.os, h.tape, h.output, by simpa [World.setCell] using h.size, fun k hk hkB => (Below.heap_setCell w' ⟨B, o, none⟩ u k (fun e => hkB (by rw [e]))).trans (h.block k hk hkB)⟩
theorem own_keptB {w w' : World} {base : Nat} {e t : TypeId} {size n P : Nat} {v : Value} {xs : List Value} {cur : Array Value} {fr : Nat × Nat} (h : w.ownsRow base e size v n xs) (hP : w.heap[P]? = some (.cells cur t fr)) (hne : e ≠ t) (hg : w.grownBy w' (some P)) : w'.ownsRow base e size v n xs := by
  have hn := own_not h hP hne
  refine h.kept hg ?_
  cases hv : v.ownBlock with
  | none => left; rfl
  | some g => right; intro e; exact hn (by rw [hv]; exact e.symm)
theorem RowsOwn.keptB {w w' : World} {base P : Nat} {us : List Value} {ll : List (List Int)} {cur : Array Value} {t : TypeId} {fr : Nat × Nat} (h : RowsOwn w base us ll) (hP : w.heap[P]? = some (.cells cur t fr)) (hne : 3 ≠ t) (hg : w.grownBy w' (some P)) : RowsOwn w' base us ll :=
  ⟨h.1, fun j l hl => by
    obtain ⟨x, h1, h2⟩ := h.2 j l hl
    exact ⟨x, h1, own_keptB h2 hP hne hg⟩⟩
theorem RelsOwn.keptB {w w' : World} {base P : Nat} {us : List Value} {ll : List (List Rel)} {cur : Array Value} {t : TypeId} {fr : Nat × Nat} (h : RelsOwn w base us ll) (hP : w.heap[P]? = some (.cells cur t fr)) (hne : 118 ≠ t) (hg : w.grownBy w' (some P)) : RelsOwn w' base us ll :=
  ⟨h.1, fun j l hl => by
    obtain ⟨x, h1, h2⟩ := h.2 j l hl
    exact ⟨x, h1, own_keptB h2 hP hne hg⟩⟩
def dayC (L : DLaw) (u z : Value) : Array Value := #[.int .i64 L.piece, .int .i64 L.drive, .int .i64 L.spread, .int .i64 L.brk, .int .i64 L.on, .int .i64 L.off, .int .i64 L.least, .int .i64 L.pieces, u, z]
/-- A day that is copied: so many blocks lie behind g. -/
structure DayMid (w wr : World) (d : DDay) (g : Nat) (u z : Value) (Aw : Option Addr) (cw : Nat) (usw : List Value) (k : Nat) (A : Option Addr) (c : Nat) (us : List Value) : Prop where
  bel : Below w.heap.size w wr
  box : wr.heap[w.heap.size]? = some (.cells #[.int .i64 d.law.piece, .int .i64 d.law.drive, .int .i64 d.law.spread, .int .i64 d.law.brk, .int .i64 d.law.on, .int .i64 d.law.off, .int .i64 d.law.least, .int .i64 d.law.pieces, u, z] 63 (0, 0))
  ret : wr.heap[w.heap.size + 1]? = some (.cells #[.int .i64 0, .int .i64 0, .int .i64 0, .int .i64 0, .int .i64 0, .int .i64 0, .int .i64 0, .int .i64 0, .slice none 0 0, .slice none 0 0] 73 (0, 0))
  out : wr.heap[g]? = some (.cells #[.int .i64 d.law.piece, .int .i64 d.law.drive, .int .i64 d.law.spread, .int .i64 d.law.brk, .int .i64 d.law.on, .int .i64 d.law.off, .int .i64 d.law.least, .int .i64 d.law.pieces, .slice A k c, .slice Aw d.walk.length cw] 73 (0, 0))
  walk : wr.ownsRow w.heap.size 29 1 (.slice Aw d.walk.length cw) d.walk.length usw
  rows : RowsOwn wr w.heap.size usw d.walk
  rels : wr.ownsRow w.heap.size 119 1 (.slice A k c) k us
  own : RelsOwn wr w.heap.size us (d.blocks.take k)
theorem DayMid.below {w wr wr' : World} {d : DDay} {g : Nat} {u z : Value} {Aw : Option Addr} {cw : Nat} {usw : List Value} {k : Nat} {A : Option Addr} {c : Nat} {us : List Value} (h : DayMid w wr d g u z Aw cw usw k A c us) (hb : Below wr.heap.size wr wr') : DayMid w wr' d g u z Aw cw usw k A c us :=
  ⟨h.bel.trans (hb.mono h.bel.size), (hb.block _ (Array.getElem?_eq_some_iff.1 h.box).1).trans h.box, (hb.block _ (Array.getElem?_eq_some_iff.1 h.ret).1).trans h.ret, (hb.block _ (Array.getElem?_eq_some_iff.1 h.out).1).trans h.out,
    own_below h.walk hb, h.rows.below hb, own_below h.rels hb, h.own.below hb⟩
/-- One block more: it is appended, and the row is stored. -/
theorem DayMid.next {w wr w1 : World} {d : DDay} {g : Nat} {u z : Value} {Aw : Option Addr} {cw : Nat} {usw : List Value} {k : Nat} {A AA : Option Addr} {c cc : Nat} {us : List Value} {x : Value} {l : List Rel} {t : TypeId} {n : Nat} (h : DayMid w wr d g u z Aw cw usw k A c us) (hgw : n ≤ g) (hwn : w.heap.size + 1 + 1 < n)
    (hl : d.blocks[k]? = some l) (hx : wr.ownsRow w.heap.size 118 3 x l.length (relCells l)) (ho : w1.ownsRow w.heap.size 119 1 (.slice AA (k + 1) cc) (k + 1) (us ++ [x])) (hg : (wr.alloc (.cells #[x] t)).grownBy w1 (Value.slice A k c).ownBlock) :
    DayMid w (w1.setCell ⟨g, 8, none⟩ (.slice AA (k + 1) cc)) d g u z Aw cw usw (k + 1) AA cc (us ++ [x]) := by
  have ha : Below wr.heap.size wr (wr.alloc (.cells #[x] t)) := (Below.refl _ _).alloc (Nat.le_refl _) _
  have h1 := h.below ha
  have hP := own_grow h.rels h.out (by decide) hg
  refine ⟨?_, ?_, ?_, ?_, ?_, ?_, ?_, ?_⟩
  · exact (h1.bel.grown hg h1.bel.size fun q hq => (h1.rels.lt q hq).1).setCell (p := ⟨g, 8, none⟩) (by simp; omega) _
  · exact blk_other (own_grow h.rels h.box (by decide) hg) (by omega) _
  · exact blk_other (own_grow h.rels h.ret (by decide) hg) (by omega) _
  · have := blk_set hP (o := 8) (.slice AA (k + 1) cc)
    simpa only [List.setIfInBounds_toArray, List.set_cons_succ, List.set_cons_zero] using this
  · have h2 := h1.walk.kept hg (own_apart h1.walk h1.rels (by decide))
    exact own_set h2 (own_not h2 hP (by decide)) _
  · exact (h1.rows.kept h1.rels (by decide) hg).set hP (by decide) _
  · exact own_set ho (own_not ho hP (by decide)) _
  · rw [List.take_add_one, hl]
    exact ((h1.own.kept h1.rels (by decide) hg).snoc ((hx.alloc _).kept hg (own_apart (hx.alloc _) h1.rels (by decide)))).set hP (by decide) _
theorem day_frozen {w : World} {g : Nat} {xs : Array Value} {t : TypeId} (h : w.heap[g]? = some (.cells xs t (0, 0))) : ∀ o, w.frozen? ⟨g, o, none⟩ = false := box_frozen h
set_option maxRecDepth 100000 in
set_option maxHeartbeats 3200000 in
theorem DayC_any (d : DDay) (u z : Value) (w : World) (hda : DayAt w u z d) (hm : Mild d) :
    Calls Tryz.prog 23 #[.agg #[.int .i64 d.law.piece, .int .i64 d.law.drive, .int .i64 d.law.spread, .int .i64 d.law.brk, .int .i64 d.law.on, .int .i64 d.law.off, .int .i64 d.law.least, .int .i64 d.law.pieces, u, z]] w (GivesDay d.law d w) := by
  obtain ⟨A1, c1, rfl, hc1, hm1⟩ := hda.blocks.form
  obtain ⟨A2, c2, rfl, hc2, hm2⟩ := hda.walk.form
  obtain ⟨i0, hi0, hz0, hz1, hz2⟩ := info_parts infoRel
  obtain ⟨i1, hi1, hy0, hy1, hy2⟩ := info_parts infoBl
  have hmb := hm.blocks
  have hmw := hm.walk
  have Hda := Lib.hid hda
  clear hda
  go_enter Tryz.func23, Tryz.ntmps23
  go_wp2_with fail
  refine wp_name (fun W => Below w.heap.size w W ∧ w.heap.size + 1 + 1 < W.heap.size ∧ W.heap[w.heap.size]? = some (.cells #[.int .i64 d.law.piece, .int .i64 d.law.drive, .int .i64 d.law.spread, .int .i64 d.law.brk, .int .i64 d.law.on, .int .i64 d.law.off, .int .i64 d.law.least, .int .i64 d.law.pieces, .slice A1 d.blocks.length c1, .slice A2 d.walk.length c2] 63 (0, 0)) ∧
    W.heap[w.heap.size + 1]? = some (.cells #[.int .i64 0, .int .i64 0, .int .i64 0, .int .i64 0, .int .i64 0, .int .i64 0, .int .i64 0, .int .i64 0, .slice none 0 0, .slice none 0 0] 73 (0, 0)) ∧
    W.heap[w.heap.size + 1 + 1]? = some (.cells #[.int .i64 d.law.piece, .int .i64 d.law.drive, .int .i64 d.law.spread, .int .i64 d.law.brk, .int .i64 d.law.on, .int .i64 d.law.off, .int .i64 d.law.least, .int .i64 d.law.pieces] 50 (0, 0))) ?_ (fun W hW => ?_)
  · refine ⟨((Below.refl _ _).alloc (Nat.le_refl _) _).alloc (by simp) _ |>.alloc (by simp; omega) _, by simp, ?_, ?_, ?_⟩
    · exact (Below.heap_alloc _ _ _ (by simp; omega)).trans ((Below.heap_alloc _ _ _ (by simp)).trans (heap_alloc_new w _))
    · refine (Below.heap_alloc _ _ _ (by simp)).trans ?_
      exact heap_alloc2_new w _ _
    · have h := heap_alloc_new ((w.alloc (.cells #[.int .i64 d.law.piece, .int .i64 d.law.drive, .int .i64 d.law.spread, .int .i64 d.law.brk, .int .i64 d.law.on, .int .i64 d.law.off, .int .i64 d.law.least, .int .i64 d.law.pieces, .slice A1 d.blocks.length c1, .slice A2 d.walk.length c2] 63)).alloc (.cells #[.int .i64 0, .int .i64 0, .int .i64 0, .int .i64 0, .int .i64 0, .int .i64 0, .int .i64 0, .int .i64 0, .slice none 0 0, .slice none 0 0] 73)) (.cells #[.int .i64 d.law.piece, .int .i64 d.law.drive, .int .i64 d.law.spread, .int .i64 d.law.brk, .int .i64 d.law.on, .int .i64 d.law.off, .int .i64 d.law.least, .int .i64 d.law.pieces] 50)
      simpa using h
  obtain ⟨hbW, hsW, g0, g1, g2⟩ := hW
  have G0 := Lib.hid g0
  have G1 := Lib.hid g1
  have G2 := Lib.hid g2
  have hwk := Hda.out.walk.below hbW
  have Hrow := Lib.hid (fun (V : World) (h : Below W.heap.size W V) => rows_any _ d.walk V (hwk.below h) hm.walk hm.row)
  clear g0 g1 g2 hwk
  go_cut [4] from 11 to 31 (fun z wx => ∃ g A c us, z = .pointer (some ⟨g, 0, none⟩) ∧ Below W.heap.size W wx ∧ W.heap.size ≤ g ∧ wx.heap[g]? = some (.cells #[.int .i64 d.law.piece, .int .i64 d.law.drive, .int .i64 d.law.spread, .int .i64 d.law.brk, .int .i64 d.law.on, .int .i64 d.law.off, .int .i64 d.law.least, .int .i64 d.law.pieces, .slice none 0 0, .slice A d.walk.length c] 73 (0, 0)) ∧
    wx.ownsRow W.heap.size 29 1 (.slice A d.walk.length c) d.walk.length us ∧ RowsOwn wx W.heap.size us d.walk)
  case first =>
    have d0 : Below W.heap.size W W.drew := (Below.refl _ _).drew
    have l := box_cells G2.out
    have x9 := box_cells G0.out 9
    refine wp_region_noPanic ?_
    refine wp_region_pickA [0, 1, 2, 3, 4, 5, 6, 7, 8, 9, 10, 11, 12, 13, 14, 15, 16, 17, 18] 4 (fun _ => true) (fun w' => Below W.heap.size W w') (by kernel_rfl) (by kernel_rfl) (fun _ _ _ _ _ h => h) d0 (fun hne => ?_)
    have n0 := fun x : Meets (fun w' => Below W.heap.size W w') => cell_below x.property (l 0)
    have n1 := fun x : Meets (fun w' => Below W.heap.size W w') => cell_below x.property (l 1)
    have n2 := fun x : Meets (fun w' => Below W.heap.size W w') => cell_below x.property (l 2)
    have n3 := fun x : Meets (fun w' => Below W.heap.size W w') => cell_below x.property (l 3)
    have n4 := fun x : Meets (fun w' => Below W.heap.size W w') => cell_below x.property (l 4)
    have n5 := fun x : Meets (fun w' => Below W.heap.size W w') => cell_below x.property (l 5)
    have n6 := fun x : Meets (fun w' => Below W.heap.size W w') => cell_below x.property (l 6)
    have n7 := fun x : Meets (fun w' => Below W.heap.size W w') => cell_below x.property (l 7)
    have n9 := fun x : Meets (fun w' => Below W.heap.size W w') => cell_below x.property x9
    clear l x9
    simp only [pick, pickN, List.filterMap_cons, List.filterMap_nil, List.getElem?_cons_zero, List.getElem?_cons_succ, Option.map_some]
    repeat (change wpQuiet _ _ _ _ (_ :: _) _; go_big_quiet_step (fail))
    refine wpQuiet_nil ?_
    clear n0 n1 n2 n3 n4 n5 n6 n7 n9 hne
    refine wpAnyF_two (i := 19) (j := 21) (by kernel_rfl) rfl rfl (fun K hK => ?_) (fun K hK => ?_)
    · skip
      go_simp
      refine (Hrow.out _ d0).mono ?_
      rintro e v1 ⟨A, c, us, rfl, ho, hr, he1⟩
      have hB1 := d0.trans (he1.mono d0.size)
      replace ho := own_mono ho d0.size
      replace hr := hr.mono d0.size
      refine hK.out _ _ (fun _ => hB1) ?_
      clear hK K
      refine wpAnyF_two (i := 20) (j := 21) (by kernel_rfl) rfl rfl (fun K hK => ?_) (fun K hK => ?_)
      · skip
        go_simp
        refine hK.out _ _ (fun _ => hB1) ?_
        clear hK K
        refine wpAnyF_one (i := 21) (by kernel_rfl) rfl (fun K hK => ?_)
        go_simp
        have hB2 := hB1.alloc hB1.size (.cells #[.int .i64 0, .int .i64 0, .int .i64 0, .int .i64 0, .int .i64 0, .int .i64 0, .int .i64 0, .int .i64 0, .slice none 0 0, .slice none 0 0] 73 (0, 0))
        have bx2 := heap_alloc_new v1 (.cells #[.int .i64 0, .int .i64 0, .int .i64 0, .int .i64 0, .int .i64 0, .int .i64 0, .int .i64 0, .int .i64 0, .slice none 0 0, .slice none 0 0] 73 (0, 0))
        have gl2 : W.heap.size ≤ v1.heap.size := hB1.size
        replace hr := hr.below ((Below.refl v1.heap.size v1).alloc (Nat.le_refl _) (.cells #[.int .i64 0, .int .i64 0, .int .i64 0, .int .i64 0, .int .i64 0, .int .i64 0, .int .i64 0, .int .i64 0, .slice none 0 0, .slice none 0 0] 73 (0, 0)))
        replace ho := ho.alloc (.cells #[.int .i64 0, .int .i64 0, .int .i64 0, .int .i64 0, .int .i64 0, .int .i64 0, .int .i64 0, .int .i64 0, .slice none 0 0, .slice none 0 0] 73 (0, 0))
        refine hK.out _ _ (fun _ => hB2) ?_
        clear hK K
        obtain ⟨g, hg⟩ : ∃ g, v1.heap.size = g := ⟨_, rfl⟩
        rw [hg] at bx2 gl2 ⊢
        generalize (v1.alloc (.cells #[.int .i64 0, .int .i64 0, .int .i64 0, .int .i64 0, .int .i64 0, .int .i64 0, .int .i64 0, .int .i64 0, .slice none 0 0, .slice none 0 0] 73 (0, 0))) = v2 at *
        refine wpAnyF_one (i := 22) (by kernel_rfl) rfl (fun K hK => ?_)
        have gf := box_frozen bx2
        have gc := box_cells bx2
        go_simp
        have hB3 : Below W.heap.size W _ := ((((((((((((((((((((hB2).setCell (p := ⟨g, 0, none⟩) gl2 (.int .i64 d.law.piece))).setCell (p := ⟨g, 1, none⟩) gl2 (.int .i64 d.law.drive))).setCell (p := ⟨g, 2, none⟩) gl2 (.int .i64 d.law.spread))).setCell (p := ⟨g, 3, none⟩) gl2 (.int .i64 d.law.brk))).setCell (p := ⟨g, 4, none⟩) gl2 (.int .i64 d.law.on))).setCell (p := ⟨g, 5, none⟩) gl2 (.int .i64 d.law.off))).setCell (p := ⟨g, 6, none⟩) gl2 (.int .i64 d.law.least))).setCell (p := ⟨g, 7, none⟩) gl2 (.int .i64 d.law.pieces))).setCell (p := ⟨g, 8, none⟩) gl2 (.slice none 0 0))).setCell (p := ⟨g, 9, none⟩) gl2 (.slice A d.walk.length c))
        refine hK.out _ _ (fun _ => hB3) ?_
        clear hK K gf gc
        have hgr := (grown_setB (grown_setB (grown_setB (grown_setB (grown_setB (grown_setB (grown_setB (grown_setB (grown_setB (grown_setB (World.grownBy.refl v2 (some g)) 0 (.int .i64 d.law.piece)) 1 (.int .i64 d.law.drive)) 2 (.int .i64 d.law.spread)) 3 (.int .i64 d.law.brk)) 4 (.int .i64 d.law.on)) 5 (.int .i64 d.law.off)) 6 (.int .i64 d.law.least)) 7 (.int .i64 d.law.pieces)) 8 (.slice none 0 0)) 9 (.slice A d.walk.length c))
        have bx3 := (blk_set (blk_set (blk_set (blk_set (blk_set (blk_set (blk_set (blk_set (blk_set (blk_set bx2 (o := 0) (.int .i64 d.law.piece)) (o := 1) (.int .i64 d.law.drive)) (o := 2) (.int .i64 d.law.spread)) (o := 3) (.int .i64 d.law.brk)) (o := 4) (.int .i64 d.law.on)) (o := 5) (.int .i64 d.law.off)) (o := 6) (.int .i64 d.law.least)) (o := 7) (.int .i64 d.law.pieces)) (o := 8) (.slice none 0 0)) (o := 9) (.slice A d.walk.length c))
        have ho3 := own_keptB ho bx2 (by decide) hgr
        have hr3 := hr.keptB bx2 (by decide) hgr
        refine wpAnyF_done (by kernel_rfl) ?_ _
        refine NoPanic.normal ?_
        go_wp2_with fail
        go_meet
        case rel => exact ⟨g, A, c, us, rfl, hB3, gl2, by simpa only [List.setIfInBounds_toArray, List.set_cons_succ, List.set_cons_zero] using bx3, ho3, hr3⟩
      · skip
        go_simp
        have hB2 := hB1.alloc hB1.size (.cells #[.int .i64 0, .int .i64 0, .int .i64 0, .int .i64 0, .int .i64 0, .int .i64 0, .int .i64 0, .int .i64 0, .slice none 0 0, .slice none 0 0] 73 (0, 0))
        have bx2 := heap_alloc_new v1 (.cells #[.int .i64 0, .int .i64 0, .int .i64 0, .int .i64 0, .int .i64 0, .int .i64 0, .int .i64 0, .int .i64 0, .slice none 0 0, .slice none 0 0] 73 (0, 0))
        have gl2 : W.heap.size ≤ v1.heap.size := hB1.size
        replace hr := hr.below ((Below.refl v1.heap.size v1).alloc (Nat.le_refl _) (.cells #[.int .i64 0, .int .i64 0, .int .i64 0, .int .i64 0, .int .i64 0, .int .i64 0, .int .i64 0, .int .i64 0, .slice none 0 0, .slice none 0 0] 73 (0, 0)))
        replace ho := ho.alloc (.cells #[.int .i64 0, .int .i64 0, .int .i64 0, .int .i64 0, .int .i64 0, .int .i64 0, .int .i64 0, .int .i64 0, .slice none 0 0, .slice none 0 0] 73 (0, 0))
        refine hK.out _ _ (fun _ => hB2) ?_
        clear hK K
        obtain ⟨g, hg⟩ : ∃ g, v1.heap.size = g := ⟨_, rfl⟩
        rw [hg] at bx2 gl2 ⊢
        generalize (v1.alloc (.cells #[.int .i64 0, .int .i64 0, .int .i64 0, .int .i64 0, .int .i64 0, .int .i64 0, .int .i64 0, .int .i64 0, .slice none 0 0, .slice none 0 0] 73 (0, 0))) = v2 at *
        refine wpAnyF_one (i := 20) (by kernel_rfl) rfl (fun K hK => ?_)
        go_simp
        refine hK.out _ _ (fun _ => hB2) ?_
        clear hK K
        refine wpAnyF_one (i := 22) (by kernel_rfl) rfl (fun K hK => ?_)
        have gf := box_frozen bx2
        have gc := box_cells bx2
        go_simp
        have hB3 : Below W.heap.size W _ := ((((((((((((((((((((hB2).setCell (p := ⟨g, 0, none⟩) gl2 (.int .i64 d.law.piece))).setCell (p := ⟨g, 1, none⟩) gl2 (.int .i64 d.law.drive))).setCell (p := ⟨g, 2, none⟩) gl2 (.int .i64 d.law.spread))).setCell (p := ⟨g, 3, none⟩) gl2 (.int .i64 d.law.brk))).setCell (p := ⟨g, 4, none⟩) gl2 (.int .i64 d.law.on))).setCell (p := ⟨g, 5, none⟩) gl2 (.int .i64 d.law.off))).setCell (p := ⟨g, 6, none⟩) gl2 (.int .i64 d.law.least))).setCell (p := ⟨g, 7, none⟩) gl2 (.int .i64 d.law.pieces))).setCell (p := ⟨g, 8, none⟩) gl2 (.slice none 0 0))).setCell (p := ⟨g, 9, none⟩) gl2 (.slice A d.walk.length c))
        refine hK.out _ _ (fun _ => hB3) ?_
        clear hK K gf gc
        have hgr := (grown_setB (grown_setB (grown_setB (grown_setB (grown_setB (grown_setB (grown_setB (grown_setB (grown_setB (grown_setB (World.grownBy.refl v2 (some g)) 0 (.int .i64 d.law.piece)) 1 (.int .i64 d.law.drive)) 2 (.int .i64 d.law.spread)) 3 (.int .i64 d.law.brk)) 4 (.int .i64 d.law.on)) 5 (.int .i64 d.law.off)) 6 (.int .i64 d.law.least)) 7 (.int .i64 d.law.pieces)) 8 (.slice none 0 0)) 9 (.slice A d.walk.length c))
        have bx3 := (blk_set (blk_set (blk_set (blk_set (blk_set (blk_set (blk_set (blk_set (blk_set (blk_set bx2 (o := 0) (.int .i64 d.law.piece)) (o := 1) (.int .i64 d.law.drive)) (o := 2) (.int .i64 d.law.spread)) (o := 3) (.int .i64 d.law.brk)) (o := 4) (.int .i64 d.law.on)) (o := 5) (.int .i64 d.law.off)) (o := 6) (.int .i64 d.law.least)) (o := 7) (.int .i64 d.law.pieces)) (o := 8) (.slice none 0 0)) (o := 9) (.slice A d.walk.length c))
        have ho3 := own_keptB ho bx2 (by decide) hgr
        have hr3 := hr.keptB bx2 (by decide) hgr
        refine wpAnyF_done (by kernel_rfl) ?_ _
        refine NoPanic.normal ?_
        go_wp2_with fail
        go_meet
        case rel => exact ⟨g, A, c, us, rfl, hB3, gl2, by simpa only [List.setIfInBounds_toArray, List.set_cons_succ, List.set_cons_zero] using bx3, ho3, hr3⟩
    · skip
      go_simp
      have hB0 : Below W.heap.size W ((W.alloc (.cells #[.int .i64 0, .int .i64 0, .int .i64 0, .int .i64 0, .int .i64 0, .int .i64 0, .int .i64 0, .int .i64 0, .slice none 0 0, .slice none 0 0] 73 (0, 0))).drew) := ((Below.refl W.heap.size W).alloc (Nat.le_refl _) _).drew
      have bx0 : ((W.alloc (.cells #[.int .i64 0, .int .i64 0, .int .i64 0, .int .i64 0, .int .i64 0, .int .i64 0, .int .i64 0, .int .i64 0, .slice none 0 0, .slice none 0 0] 73 (0, 0))).drew).heap[W.heap.size]? = some (.cells #[.int .i64 0, .int .i64 0, .int .i64 0, .int .i64 0, .int .i64 0, .int .i64 0, .int .i64 0, .int .i64 0, .slice none 0 0, .slice none 0 0] 73 (0, 0)) := heap_alloc_new W (.cells #[.int .i64 0, .int .i64 0, .int .i64 0, .int .i64 0, .int .i64 0, .int .i64 0, .int .i64 0, .int .i64 0, .slice none 0 0, .slice none 0 0] 73 (0, 0))
      refine hK.out _ _ (fun _ => hB0) ?_
      clear hK K
      obtain ⟨g, hg⟩ : ∃ g, W.heap.size = g := ⟨_, rfl⟩
      have gl2 : W.heap.size ≤ g := by omega
      have HG := Lib.hid hg
      rw [show ({ block := W.heap.size, off := 0 } : Addr) = ⟨g, 0, none⟩ by rw [hg]]
      rw [hg] at bx0
      clear hg
      generalize ((W.alloc (.cells #[.int .i64 0, .int .i64 0, .int .i64 0, .int .i64 0, .int .i64 0, .int .i64 0, .int .i64 0, .int .i64 0, .slice none 0 0, .slice none 0 0] 73 (0, 0))).drew) = v0 at *
      refine wpAnyF_one (i := 19) (by kernel_rfl) rfl (fun K hK => ?_)
      go_simp
      refine (Hrow.out _ hB0).mono ?_
      rintro e v1 ⟨A, c, us, rfl, ho, hr, he1⟩
      have hB2 := hB0.trans (he1.mono hB0.size)
      replace ho := own_mono ho hB0.size
      replace hr := hr.mono hB0.size
      have bx2 := (he1.block g (Array.getElem?_eq_some_iff.1 bx0).1).trans bx0
      refine hK.out _ _ (fun _ => hB2) ?_
      clear hK K
      obtain ⟨v2, rfl⟩ : ∃ v2 : World, v2 = v1 := ⟨_, rfl⟩
      refine wpAnyF_one (i := 20) (by kernel_rfl) rfl (fun K hK => ?_)
      go_simp
      refine hK.out _ _ (fun _ => hB2) ?_
      clear hK K
      refine wpAnyF_one (i := 22) (by kernel_rfl) rfl (fun K hK => ?_)
      have gf := box_frozen bx2
      have gc := box_cells bx2
      go_simp
      have hB3 : Below W.heap.size W _ := ((((((((((((((((((((hB2).setCell (p := ⟨g, 0, none⟩) gl2 (.int .i64 d.law.piece))).setCell (p := ⟨g, 1, none⟩) gl2 (.int .i64 d.law.drive))).setCell (p := ⟨g, 2, none⟩) gl2 (.int .i64 d.law.spread))).setCell (p := ⟨g, 3, none⟩) gl2 (.int .i64 d.law.brk))).setCell (p := ⟨g, 4, none⟩) gl2 (.int .i64 d.law.on))).setCell (p := ⟨g, 5, none⟩) gl2 (.int .i64 d.law.off))).setCell (p := ⟨g, 6, none⟩) gl2 (.int .i64 d.law.least))).setCell (p := ⟨g, 7, none⟩) gl2 (.int .i64 d.law.pieces))).setCell (p := ⟨g, 8, none⟩) gl2 (.slice none 0 0))).setCell (p := ⟨g, 9, none⟩) gl2 (.slice A d.walk.length c))
      refine hK.out _ _ (fun _ => hB3) ?_
      clear hK K gf gc
      have hgr := (grown_setB (grown_setB (grown_setB (grown_setB (grown_setB (grown_setB (grown_setB (grown_setB (grown_setB (grown_setB (World.grownBy.refl v2 (some g)) 0 (.int .i64 d.law.piece)) 1 (.int .i64 d.law.drive)) 2 (.int .i64 d.law.spread)) 3 (.int .i64 d.law.brk)) 4 (.int .i64 d.law.on)) 5 (.int .i64 d.law.off)) 6 (.int .i64 d.law.least)) 7 (.int .i64 d.law.pieces)) 8 (.slice none 0 0)) 9 (.slice A d.walk.length c))
      have bx3 := (blk_set (blk_set (blk_set (blk_set (blk_set (blk_set (blk_set (blk_set (blk_set (blk_set bx2 (o := 0) (.int .i64 d.law.piece)) (o := 1) (.int .i64 d.law.drive)) (o := 2) (.int .i64 d.law.spread)) (o := 3) (.int .i64 d.law.brk)) (o := 4) (.int .i64 d.law.on)) (o := 5) (.int .i64 d.law.off)) (o := 6) (.int .i64 d.law.least)) (o := 7) (.int .i64 d.law.pieces)) (o := 8) (.slice none 0 0)) (o := 9) (.slice A d.walk.length c))
      have ho3 := own_keptB ho bx2 (by decide) hgr
      have hr3 := hr.keptB bx2 (by decide) hgr
      refine wpAnyF_done (by kernel_rfl) ?_ _
      refine NoPanic.normal ?_
      go_wp2_with fail
      go_meet
      case rel => exact ⟨g, A, c, us, rfl, hB3, gl2, by simpa only [List.setIfInBounds_toArray, List.set_cons_succ, List.set_cons_zero] using bx3, ho3, hr3⟩
  case rest =>
    obtain ⟨g, Aw, cw, usw, rfl, hbw, hgl, hgb, hown, hro⟩ := hcut
    rename World => V
    have hst : DayMid w V d g (.slice A1 d.blocks.length c1) (.slice A2 d.walk.length c2) Aw cw usw 0 none 0 [] :=
      ⟨hbW.trans (hbw.mono hbW.size), (hbw.block _ (by omega)).trans G0.out, (hbw.block _ (by omega)).trans G1.out, hgb, own_mono hown hbW.size, hro.mono hbW.size, World.ownsRow_nil _ _ _ _, ⟨rfl, by intro j l h; simp at h⟩⟩
    have Hst := Lib.hid hst
    clear hbw hgb hown hro hst
    go_wp2
    go_loopw [5] (fun i wr => ∃ (k : Nat) (A : Option Addr) (c : Nat) (us : List Value), k ≤ d.blocks.length ∧ i = .int .i64 k ∧ DayMid w wr d g (.slice A1 d.blocks.length c1) (.slice A2 d.walk.length c2) Aw cw usw k A c us) (fun i wr => d.blocks.length - (intOf i).toNat)
    case atStart => exact ⟨0, _, _, _, by omega, rfl, Hst.out⟩
    case round =>
      obtain ⟨k, A, c, us, hk, rfl, hM⟩ := hrel
      obtain ⟨wo, rfl⟩ : ∃ wo : World, wo = wr := ⟨_, rfl⟩
      have HM := Lib.hid hM
      have b8 := box_cells HM.out.box 8
      have hsz := hM.bel.size
      clear hM
      by_cases hlt : k < d.blocks.length
      · obtain ⟨b, o, l, u, rfl, hl, c0, hr, hblt⟩ := (Hda.out.blocks.below HM.out.bel).at_ hlt
        obtain ⟨A3, c3, rfl, hc3, hm3⟩ := hr.form
        have hll := hm.block k l hl
        have Hl := Lib.hid hl
        have C0 := Lib.hid c0
        have B8 := Lib.hid b8
        have k1 : (k : Int) < (d.blocks.length : Int) := by omega
        clear hl
        go_wp2
        go_loopw [6, 7] (fun v j wr => ∃ (m : Nat) (A' : Option Addr) (c' : Nat), m ≤ l.length ∧ j = .int .i64 m ∧ v = .slice A' m c' ∧ Below wo.heap.size wo wr ∧ wr.ownsRow wo.heap.size 118 3 v m (relCells (l.take m))) (fun v j wr => l.length - (intOf j).toNat)
        case atStart => exact ⟨0, none, 0, by omega, rfl, rfl, Below.refl _ _, World.ownsRow_nil _ _ _ _⟩
        case round =>
          obtain ⟨m, A', c', hm0, rfl, rfl, hb2, hown⟩ := hrel
          obtain ⟨wq, rfl⟩ : ∃ wq : World, wq = wr := ⟨_, rfl⟩
          have Hown := Lib.hid hown
          have q0 := cell_below hb2 C0.out
          have q8 := cell_below hb2 B8.out
          have hs2 := hb2.size
          have hrq := hr.below hb2
          clear hown
          by_cases hlm : m < l.length
          · obtain ⟨b3, o3, r, rfl, hr3, r0, r1, r2, hbl⟩ := hrq.at_ hlm
            have Hr := Lib.hid hr3
            have k2 : (m : Int) < (l.length : Int) := by omega
            clear hr3
            go_wp2_with (at_builtin; go_loud (refine wpList_append_src _ rfl (.tmp 57) (.tmp 68) 119 rfl wo.heap.size 118 i0 _ 3 24 Tryz.underlying119 hi0 hz0 hz1 hz2 rfl (by omega) _ m _ rfl ((Hown.out.alloc _).alloc _) (some ⟨wq.heap.size + 1, 0, none⟩) 1 1 (relC r) rfl (src_newN (m := 1) (size := 3) rfl (by simp)) (by simp [relC, Value.oneCell']) (by simp [maxLen]; omega) (by omega) (by simp; omega) ?_; intro v1 w1 hown1 hg1 hat1; have Hg1 := Lib.hid hg1; obtain ⟨AA1, cc1, rfl⟩ := own_form hown1; have Hown1 := Lib.hid hown1; clear hown1 hg1 hat1))
            go_roundw
            case rel =>
              refine ⟨m + 1, AA1, cc1, by omega, by go_num, rfl, ((hb2.alloc hs2 _).alloc (by simp; omega) _).grown Hg1.out (by simp; omega) fun q hq => (Hown.out.lt q hq).1, ?_⟩
              rw [List.take_add_one, Hr.out, Option.toList_some, relCells_snoc]
              exact Hown1.out
            case measure => simp [intOf]; omega
          · obtain rfl : m = l.length := by omega
            have hw2 := Hown.out
            rw [List.take_length] at hw2
            have Hw2 := Lib.hid (own_mono hw2 hsz)
            have HM2 := Lib.hid (HM.out.below hb2)
            have g8 := box_cells HM2.out.out 8
            have gf := box_frozen HM2.out.out 8
            clear hw2
            go_wp2_with (at_builtin; go_loud (refine wpList_append_src _ rfl (.tmp 71) (.tmp 73) 71 rfl w.heap.size 119 i1 _ 1 24 Tryz.underlying71 hi1 hy0 hy1 hy2 rfl (by omega) _ k us rfl (HM2.out.rels.alloc _) (some ⟨wq.heap.size, 0, none⟩) 1 1 [.slice A' l.length c'] rfl (src_new wq [.slice A' l.length c'] 119 1 1 rfl) (by simp [Value.oneCell']) (by simp [maxLen]; omega) (by omega) (by simp; omega) ?_; intro v1 w1 hown1 hg1 hat1; have Hg1 := Lib.hid hg1; obtain ⟨AA1, cc1, rfl⟩ := own_form hown1; have Hown1 := Lib.hid hown1; clear hown1 hg1 hat1; have g81 := box_cells (own_grow HM2.out.rels HM2.out.out (by decide) Hg1.out) 8; have gf1 := box_frozen (own_grow HM2.out.rels HM2.out.out (by decide) Hg1.out) 8))
            go_roundw
            case rel =>
              exact ⟨k + 1, AA1, cc1, _, by omega, by go_num, HM2.out.next hgl hsW Hl.out Hw2.out Hown1.out Hg1.out⟩
            case measure => simp [intOf]; omega
      · obtain rfl : k = d.blocks.length := by omega
        have hM := HM.out
        have g1 := hM.ret
        have f1 := box_frozen g1
        have x1 := box_cells g1
        have gg := box_cells hM.out
        clear hM
        go_wp2
        have hgr := (grown_setB (grown_setB (grown_setB (grown_setB (grown_setB (grown_setB (grown_setB (grown_setB (grown_setB (grown_setB (World.grownBy.refl wo (some (w.heap.size + 1))) 0 (.int .i64 d.law.piece)) 1 (.int .i64 d.law.drive)) 2 (.int .i64 d.law.spread)) 3 (.int .i64 d.law.brk)) 4 (.int .i64 d.law.on)) 5 (.int .i64 d.law.off)) 6 (.int .i64 d.law.least)) 7 (.int .i64 d.law.pieces)) 8 (.slice A d.blocks.length c)) 9 (.slice Aw d.walk.length cw))
        have bx3 := (blk_set (blk_set (blk_set (blk_set (blk_set (blk_set (blk_set (blk_set (blk_set (blk_set HM.out.ret (o := 0) (.int .i64 d.law.piece)) (o := 1) (.int .i64 d.law.drive)) (o := 2) (.int .i64 d.law.spread)) (o := 3) (.int .i64 d.law.brk)) (o := 4) (.int .i64 d.law.on)) (o := 5) (.int .i64 d.law.off)) (o := 6) (.int .i64 d.law.least)) (o := 7) (.int .i64 d.law.pieces)) (o := 8) (.slice A d.blocks.length c)) (o := 9) (.slice Aw d.walk.length cw))
        have hB3 := ((((((((((((((((((((HM.out.bel).setCell (p := ⟨w.heap.size + 1, 0, none⟩) (by simp) (.int .i64 d.law.piece))).setCell (p := ⟨w.heap.size + 1, 1, none⟩) (by simp) (.int .i64 d.law.drive))).setCell (p := ⟨w.heap.size + 1, 2, none⟩) (by simp) (.int .i64 d.law.spread))).setCell (p := ⟨w.heap.size + 1, 3, none⟩) (by simp) (.int .i64 d.law.brk))).setCell (p := ⟨w.heap.size + 1, 4, none⟩) (by simp) (.int .i64 d.law.on))).setCell (p := ⟨w.heap.size + 1, 5, none⟩) (by simp) (.int .i64 d.law.off))).setCell (p := ⟨w.heap.size + 1, 6, none⟩) (by simp) (.int .i64 d.law.least))).setCell (p := ⟨w.heap.size + 1, 7, none⟩) (by simp) (.int .i64 d.law.pieces))).setCell (p := ⟨w.heap.size + 1, 8, none⟩) (by simp) (.slice A d.blocks.length c))).setCell (p := ⟨w.heap.size + 1, 9, none⟩) (by simp) (.slice Aw d.walk.length cw))
        simp only [List.setIfInBounds_toArray, List.set_cons_succ, List.set_cons_zero] at bx3
        have hrel := own_keptB HM.out.rels HM.out.ret (by decide) hgr
        have hrlo := HM.out.own.keptB HM.out.ret (by decide) hgr
        rw [List.take_length] at hrlo
        have hwl := own_keptB HM.out.walk HM.out.ret (by decide) hgr
        have hrw := HM.out.rows.keptB HM.out.ret (by decide) hgr
        refine bodyPost_ret (results_cell_row rfl _ _ (w.heap.size + 1) 73 #[.int .i64 d.law.piece, .int .i64 d.law.drive, .int .i64 d.law.spread, .int .i64 d.law.brk, .int .i64 d.law.on, .int .i64 d.law.off, .int .i64 d.law.least, .int .i64 d.law.pieces, .slice A d.blocks.length c, .slice Aw d.walk.length cw] (0, 0) _ rfl bx3 rfl rfl (by kernel_rfl)) rfl ⟨A, Aw, c, cw, rfl, ⟨blocks_of_own hrel hrlo, rows_of_own hwl hrw⟩, hB3⟩
end Go.Proofs.YtckgapeednokjaaGreat
namespace Go.Proofs.YtckgapeednokjaaGreat
open Go Go.Proofs Go.RowKit

/-! ### Set -/
def setL (n x : Nat) : List Nat := if bitsL n x = [] then [0] else bitsL n x
theorem set_duty {d : DDay} (x : Nat) (h : 0 < segN d.blocks) : IsDuty d (setL (segN d.blocks) x) := by
  unfold setL
  split
  · exact ⟨by simp, by simpa using h, by simp⟩
  · rename_i h0
    exact ⟨bitsL_asc _ _, fun i hi => (mem_bitsL.1 hi).1, h0⟩
theorem setL_len (n x : Nat) : (setL n x).length ≤ n + 1 := by
  unfold setL
  split
  · simp
  · have := bitsL_len n x
    omega
theorem set_bit (x k : Nat) : (((x : Int) / 2 ^ k).tmod 2 == 1) = x.testBit k := by
  have e : ((x : Int) / 2 ^ k) = ((x / 2 ^ k : Nat) : Int) := by push_cast; rfl
  rw [e, Nat.testBit_eq_decide_div_mod_eq]
  generalize x / 2 ^ k = y
  rw [Int.tmod_eq_emod_of_nonneg (by omega), Bool.eq_iff_iff]
  simp only [beq_iff_eq, decide_eq_true_eq]
  omega
end Go.Proofs.YtckgapeednokjaaGreat
namespace Go.Proofs.YtckgapeednokjaaGreat
open Go Go.Proofs Go.RowKit

/-! ### Calls as the laws make them -/
theorem box_step {w w' : World} {b : Nat} {o : Obj} (hb : Below w.heap.size w w') (h : w.heap[b]? = some o) : w'.heap[b]? = some o := (hb.block b (Array.getElem?_eq_some_iff.1 h).1).trans h
theorem ask_ok {d : DDay} (hf : (faultD d != 0) = false) {l : List Nat} (hl : IsDuty d l) : askE d (natsI l) = 0 ∧ legalQ d (natsI l) = legalL d l ∧ natsOf (natsI l) = l := by
  have e := natsOf_natsI l
  have h : dutyB (segN d.blocks) (natsI l) = true := dutyB_iff.2 (dutyI_iff.2 ⟨by rw [e], by rw [e]; exact hl⟩)
  have h1 : askE d (natsI l) = 0 := by unfold askE; rw [hf, h]; rfl
  refine ⟨h1, ?_, e⟩
  unfold legalQ
  rw [h1, e]
  rfl
theorem natsI_len (l : List Nat) : (natsI l).length = l.length := by simp [natsI]
theorem duty_len {d : DDay} {l : List Nat} (hl : IsDuty d l) : l.length ≤ segN d.blocks := by
  have h := asc_unique (bitsL_asc (segN d.blocks) (maskL l)) hl.rise fun i => by
    rw [mem_bitsL, maskL_bit]
    simp only [decide_eq_true_eq]
    exact ⟨fun h => h.2, fun h => ⟨hl.lt i h, h⟩⟩
  rw [← h]
  exact bitsL_len _ _
theorem LegalS_any (d : DDay) (u z v : Value) (l : List Nat) (w : World) (hda : DayAt w u z d) (hm : Mild d) (hf : (faultD d != 0) = false) (hv : NumsAt .i64 w v (natsI l)) (hl : IsDuty d l) :
    Calls Tryz.prog 45 #[.agg #[.int .i64 d.law.piece, .int .i64 d.law.drive, .int .i64 d.law.spread, .int .i64 d.law.brk, .int .i64 d.law.on, .int .i64 d.law.off, .int .i64 d.law.least, .int .i64 d.law.pieces, u, z], v] w (Gives w (.tuple #[.bool (legalL d l), .int .i64 0])) := by
  have h := Legal_any d u z v (natsI l) w hda hm hv (by have := duty_len hl; have := (fault_ok hf).segs; rw [natsI_len]; omega)
  obtain ⟨h1, h2, _⟩ := ask_ok hf hl
  rw [h1, h2] at h
  exact h
theorem GivesOwn.nums {w w' : World} {l : List Int} {A : Option Addr} {c : Nat} (h : w'.ownsRow w.heap.size 3 1 (.slice A l.length c) l.length (l.map (.int .i64))) : NumsAt .i64 w' (.slice A l.length c) l := nums_of_own h
theorem one_nums (w : World) (k : Nat) : NumsAt .i64 (w.alloc (.cells #[.int .i64 (k : Int)] 3)) (.slice (some ⟨w.heap.size, 0, none⟩) 1 1) (natsI [k]) := nums_new w [(k : Int)] 3 (by simp [maxLen])
theorem single_duty {d : DDay} {k : Nat} (h : k < segN d.blocks) : IsDuty d [k] := ⟨by simp, by simpa using h, by simp⟩
theorem mem_barred {d : DDay} {s : Nat} : s ∈ barredL d ↔ s < segN d.blocks ∧ legalL d [s] = false := by
  unfold barredL
  simp [List.mem_filter]
theorem barred_asc (d : DDay) : (barredL d).Pairwise (· < ·) := List.Pairwise.filter _ List.pairwise_lt_range
theorem barred_len (d : DDay) : (barredL d).length ≤ segN d.blocks := by
  unfold barredL
  exact Nat.le_trans (List.length_filter_le _ _) (by simp)
theorem barred_best {d : DDay} (h : DayOk d) : (bestV d).can = true ↔ barredL d = [] := by
  rw [best_iff h]
  constructor
  · intro hall
    cases hb : barredL d with
    | nil => rfl
    | cons a t =>
      have := mem_barred.1 (show a ∈ barredL d by rw [hb]; simp)
      rw [hall a this.1] at this
      exact absurd this.2 (by simp)
  · intro hb s hs
    cases hl : legalL d [s] with
    | true => rfl
    | false =>
      have := mem_barred.2 ⟨hs, hl⟩
      rw [hb] at this
      simp at this
theorem mem_natsI {l : List Nat} {s : Nat} : (s : Int) ∈ natsI l ↔ s ∈ l := by
  unfold natsI
  rw [List.mem_map]
  constructor
  · rintro ⟨a, ha, e⟩
    have : a = s := by omega
    exact this ▸ ha
  · intro h
    exact ⟨s, h, rfl⟩
theorem natsI_get {l : List Nat} {k : Nat} {x : Int} (h : (natsI l)[k]? = some x) : ∃ s : Nat, x = (s : Int) ∧ l[k]? = some s := by
  unfold natsI at h
  rw [List.getElem?_map] at h
  cases e : l[k]? with
  | none => rw [e] at h; simp at h
  | some s => rw [e] at h; simp at h; exact ⟨s, h.symm, rfl⟩
end Go.Proofs.YtckgapeednokjaaGreat
