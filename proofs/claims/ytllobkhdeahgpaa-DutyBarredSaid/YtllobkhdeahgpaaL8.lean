import Derived.Test.YtllobkhdeahgpaaK5
set_option linter.unusedVariables false
set_option linter.unusedSimpArgs false
namespace Go.Proofs.Ytllobkhdeahgpaa
open Go Go.Proofs Go.RowKit

/-! ### DutyBarred -/
set_option maxRecDepth 100000 in
set_option maxHeartbeats 800000 in
theorem Barred_dark (d : DDay) (u z : Value) (x : Nat) (w : World) (hda : DayAt w u z d) (hx : x < 65536) (hl : lightB d = false) :
    Calls Try.prog 8 #[.agg #[.int .i64 d.law.piece, .int .i64 d.law.drive, .int .i64 d.law.spread, .int .i64 d.law.brk, .int .i64 d.law.on, .int .i64 d.law.off, .int .i64 d.law.least, .int .i64 d.law.pieces, u, z], .int .u16 (x : Int)] w (Gives w (.bool true)) := by
  obtain ⟨A1, c1, rfl, _, _⟩ := hda.blocks.form
  obtain ⟨A2, c2, rfl, _, _⟩ := hda.walk.form
  have hw0 : Below w.heap.size w (w.alloc (.cells #[.int .i64 d.law.piece, .int .i64 d.law.drive, .int .i64 d.law.spread, .int .i64 d.law.brk, .int .i64 d.law.on, .int .i64 d.law.off, .int .i64 d.law.least, .int .i64 d.law.pieces, .slice A1 d.blocks.length c1, .slice A2 d.walk.length c2] 27)) := (Below.refl _ _).alloc (Nat.le_refl _) _
  have G0 := Lib.hid (heap_alloc_new w (.cells #[.int .i64 d.law.piece, .int .i64 d.law.drive, .int .i64 d.law.spread, .int .i64 d.law.brk, .int .i64 d.law.on, .int .i64 d.law.off, .int .i64 d.law.least, .int .i64 d.law.pieces, .slice A1 d.blocks.length c1, .slice A2 d.walk.length c2] 27 (0, 0)))
  have Hda := Lib.hid hda
  have Hl := Lib.hid hl
  clear hl
  clear hda
  go_enter Try.func8, Try.ntmps8
  have gc := box_cells G0.out
  have gf := box_frozen G0.out
  go_wp2_with fail
  refine (Gives.to Hl.out (light_any d _ _ _ (Hda.out.below hw0))).mono ?_
  rintro e w1 ⟨rfl, hb1⟩
  have hw1 := hw0.trans (hb1.mono hw0.size)
  have G1 := Lib.hid (box_step hb1 G0.out)
  replace gc := box_cells G1.out
  replace gf := box_frozen G1.out
  go_wp2_with fail
  refine (wakes_any _).mono ?_
  rintro e w2 ⟨rfl, hb2⟩
  have hw2 := hw1.trans (hb2.mono hw1.size)
  have G2 := Lib.hid (box_step hb2 G1.out)
  replace gc := box_cells G2.out
  replace gf := box_frozen G2.out
  go_wp2
  go_ret
  exact ⟨rfl, hw2⟩
set_option maxRecDepth 100000 in
set_option maxHeartbeats 6400000 in
theorem Barred_light (d : DDay) (u z : Value) (x : Nat) (w : World) (hda : DayAt w u z d) (hx : x < 65536) (hl : lightB d = true) :
    Calls Try.prog 8 #[.agg #[.int .i64 d.law.piece, .int .i64 d.law.drive, .int .i64 d.law.spread, .int .i64 d.law.brk, .int .i64 d.law.on, .int .i64 d.law.off, .int .i64 d.law.least, .int .i64 d.law.pieces, u, z], .int .u16 (x : Int)] w (Gives w (.bool true)) := by
  have hlt := hl
  unfold lightB at hlt
  rw [Bool.and_eq_true, decide_eq_true_eq] at hlt
  obtain ⟨_, hm, hf, hf0⟩ := ready_ok hlt.1
  have h8 := hlt.2
  have hd := fault_ok hf
  have Hd := Lib.hid hd
  have hbl := barred_len d
  have hbb := barred_best hd
  have Hbb := Lib.hid hbb
  have Hf := Lib.hid hf
  clear hlt hd hf hf0 hbb
  obtain ⟨A1, c1, rfl, _, _⟩ := hda.blocks.form
  obtain ⟨A2, c2, rfl, _, _⟩ := hda.walk.form
  have hw0 : Below w.heap.size w (w.alloc (.cells #[.int .i64 d.law.piece, .int .i64 d.law.drive, .int .i64 d.law.spread, .int .i64 d.law.brk, .int .i64 d.law.on, .int .i64 d.law.off, .int .i64 d.law.least, .int .i64 d.law.pieces, .slice A1 d.blocks.length c1, .slice A2 d.walk.length c2] 27)) := (Below.refl _ _).alloc (Nat.le_refl _) _
  have G0 := Lib.hid (heap_alloc_new w (.cells #[.int .i64 d.law.piece, .int .i64 d.law.drive, .int .i64 d.law.spread, .int .i64 d.law.brk, .int .i64 d.law.on, .int .i64 d.law.off, .int .i64 d.law.least, .int .i64 d.law.pieces, .slice A1 d.blocks.length c1, .slice A2 d.walk.length c2] 27 (0, 0)))
  have Hda := Lib.hid hda
  have Hl := Lib.hid hl
  clear hl
  clear hda
  go_enter Try.func8, Try.ntmps8
  have gc := box_cells G0.out
  have gf := box_frozen G0.out
  go_wp2_with fail
  refine (Gives.to Hl.out (light_any d _ _ _ (Hda.out.below hw0))).mono ?_
  rintro e w1 ⟨rfl, hb1⟩
  have hw1 := hw0.trans (hb1.mono hw0.size)
  have G1 := Lib.hid (box_step hb1 G0.out)
  replace gc := box_cells G1.out
  replace gf := box_frozen G1.out
  go_wp2_with fail
  refine (DayC_any d _ _ _ (Hda.out.below hw1) hm).mono ?_
  rintro e w2 ⟨B12, B22, e12, e22, rfl, hd2, hb2⟩
  have hw2 := hw1.trans (hb2.mono hw1.size)
  have G2 := Lib.hid (box_step hb2 G1.out)
  replace gc := box_cells G2.out
  replace gf := box_frozen G2.out
  go_wp2_with fail
  refine (Barred_any d _ _ _ hd2 hm).mono ?_
  rintro e w3 ⟨hb3, _, hbn, hbs⟩
  have Hbn := Lib.hid (hbn Hf.out)
  have Hbs := Lib.hid (hbs Hf.out)
  clear hbn hbs hd2
  have hw3 := hw2.trans (hb3.mono hw2.size)
  have G3 := Lib.hid (box_step hb3 G2.out)
  replace gc := box_cells G3.out
  replace gf := box_frozen G3.out
  by_cases hB : barredL d = []
  · skip
    have hcan : (bestV d).can = true := Hbb.out.2 hB
    have Hcan := Lib.hid hcan
    have HB := Lib.hid hB
    clear hcan hB
    obtain rfl := Hbn.out HB.out
    clear Hbn Hbs
    go_wp2_with fail
    refine (DayC_any d _ _ _ (Hda.out.below hw3) hm).mono ?_
    rintro e w4 ⟨B14, B24, e14, e24, rfl, hd4, hb4⟩
    have hw4 := hw3.trans (hb4.mono hw3.size)
    have G4 := Lib.hid (box_step hb4 G3.out)
    replace gc := box_cells G4.out
    replace gf := box_frozen G4.out
    go_wp2_with fail
    refine (Best_any d _ _ _ hd4 hm).mono ?_
    rintro e w5 ⟨hb5, _, hbn, hbs⟩
    clear hd4
    obtain ⟨AP, cP, rfl, _⟩ := hbs Hf.out Hcan.out
    clear hbn hbs
    have hw5 := hw4.trans (hb5.mono hw4.size)
    have G5 := Lib.hid (box_step hb5 G4.out)
    replace gc := box_cells G5.out
    replace gf := box_frozen G5.out
    have HT := Lib.hid (show NumsAt .i64 w5 (.slice none 0 0) (natsI (barredL d)) by rw [HB.out]; exact ⟨none, 0, rfl, by simp [natsI], by simp [maxLen], by simp [natsI]⟩)
    have hlen : (barredL d).length = 0 := by rw [HB.out]; rfl
    go_wp2
    go_loopw [10] (fun i wr => ∃ k : Nat, k ≤ segN d.blocks ∧ i = .int .i64 k ∧ Below w5.heap.size w5 wr) (fun i wr => segN d.blocks - (intOf i).toNat)
    case atStart => exact ⟨0, by omega, rfl, Below.refl _ _⟩
    case round =>
      obtain ⟨k, hk, rfl, hbr⟩ := hrel
      obtain ⟨wo, rfl⟩ : ∃ wo : World, wo = wr := ⟨_, rfl⟩
      have hwo := hw5.trans (hbr.mono hw5.size)
      have Go := Lib.hid (box_step hbr G5.out)
      replace gc := box_cells Go.out
      replace gf := box_frozen Go.out
      have hTo := HT.out.below hbr
      go_wp2_with fail
      refine (Segments_any d _ _ _ (Hda.out.below hwo) hm).mono ?_
      rintro e w6 ⟨rfl, hb6⟩
      have hw6 := hwo.trans (hb6.mono hwo.size)
      have G6 := Lib.hid (box_step hb6 Go.out)
      replace gc := box_cells G6.out
      replace gf := box_frozen G6.out
      replace hTo := hTo.below hb6
      by_cases hlt : k < segN d.blocks
      · skip
        have Hsd := Lib.hid (single_duty hlt)
        have hmem : decide ((k : Int) ∈ natsI (barredL d)) = !legalL d [k] := by
          rw [Bool.eq_iff_iff, decide_eq_true_iff, mem_natsI, mem_barred]
          simp [hlt]
        have Hmem := Lib.hid hmem
        clear hmem
        go_wp2_with fail
        refine (DayC_any d _ _ _ (Hda.out.below hw6) hm).mono ?_
        rintro e w7 ⟨B17, B27, e17, e27, rfl, hd7, hb7⟩
        have hw7 := hw6.trans (hb7.mono hw6.size)
        have G7 := Lib.hid (box_step hb7 G6.out)
        replace gc := box_cells G7.out
        replace gf := box_frozen G7.out
        replace hTo := hTo.below hb7
        go_wp2_with fail
        have hba : Below w7.heap.size w7 (w7.alloc (.cells #[.int .i64 (k : Int)] 3)) := (Below.refl _ _).alloc (Nat.le_refl _) _
        refine (LegalS_any d _ _ _ [k] _ (hd7.below hba) hm Hf.out (one_nums w7 k) Hsd.out).mono ?_
        rintro e w8 ⟨rfl, hb8'⟩
        have hb8 := hba.trans (hb8'.mono hba.size)
        clear hba hb8' hd7
        have hw8 := hw7.trans (hb8.mono hw7.size)
        have G8 := Lib.hid (box_step hb8 G7.out)
        replace gc := box_cells G8.out
        replace gf := box_frozen G8.out
        replace hTo := hTo.below hb8
        generalize hL : legalL d [k] = L at *
        clear hL
        cases L with
        | true =>
          simp only [Bool.not_true, Bool.not_false] at Hmem
          go_wp2_with (go_at_call 19; refine (Same.to Hmem.out (Has_any _ _ _ _ hTo)).mono ?_; rintro e wh ⟨rfl, rfl⟩)
          go_roundw
          case rel => exact ⟨k + 1, by omega, by go_num, hbr.trans ((hb6.trans ((hb7.trans (hb8.mono hb7.size)).mono hb6.size)).mono hbr.size)⟩
          case measure => simp [intOf]; omega
        | false =>
          simp only [Bool.not_true, Bool.not_false] at Hmem
          go_wp2_with (go_at_call 19; refine (Same.to Hmem.out (Has_any _ _ _ _ hTo)).mono ?_; rintro e wh ⟨rfl, rfl⟩)
          go_roundw
          case rel => exact ⟨k + 1, by omega, by go_num, hbr.trans ((hb6.trans ((hb7.trans (hb8.mono hb7.size)).mono hb6.size)).mono hbr.size)⟩
          case measure => simp [intOf]; omega
      · obtain rfl : k = segN d.blocks := by omega
        have HT2 := Lib.hid hTo
        clear hTo HT
        go_wp2
        go_loopw [13] (fun i wr => ∃ k : Nat, 1 ≤ k ∧ i = .int .i64 k ∧ Below w6.heap.size w6 wr) (fun i wr => 0 + 1 - (intOf i).toNat)
        case atStart => exact ⟨1, by omega, rfl, Below.refl _ _⟩
        case round =>
          obtain ⟨k, hk1, rfl, hbr2⟩ := hrel
          obtain ⟨wp, rfl⟩ : ∃ wp : World, wp = wr := ⟨_, rfl⟩
          have hwp := hw6.trans (hbr2.mono hw6.size)
          have Gp := Lib.hid (box_step hbr2 G6.out)
          replace gc := box_cells Gp.out
          replace gf := box_frozen Gp.out
          have hTo := HT2.out.below hbr2
          have hkI : ¬ (k : Int) < 0 := by omega
          have hTL := Lib.hid hTo
          clear hTo
          go_wp2_with fail
          refine (Segments_any d _ _ _ (Hda.out.below hwp) hm).mono ?_
          rintro e w7 ⟨rfl, hb7⟩
          have hw7 := hwp.trans (hb7.mono hwp.size)
          have G7 := Lib.hid (box_step hb7 Gp.out)
          replace gc := box_cells G7.out
          replace gf := box_frozen G7.out
          have HT3 := Lib.hid (hTL.out.below hb7)
          by_cases hn0 : segN d.blocks = 0
          · skip
            have hn0I : ((segN d.blocks : Int) == 0) = true := by simp; omega
            clear hn0
            go_wp2_with fail
            refine (wakes_any _).mono ?_
            rintro e w8 ⟨rfl, hb8⟩
            have hw8 := hw7.trans (hb8.mono hw7.size)
            have G8 := Lib.hid (box_step hb8 G7.out)
            replace gc := box_cells G8.out
            replace gf := box_frozen G8.out
            go_wp2
            go_ret
            exact ⟨rfl, hw8⟩
          · skip
            have hn0I : ((segN d.blocks : Int) == 0) = false := by rw [Bool.eq_false_iff]; simp only [ne_eq, beq_iff_eq]; omega
            have Hsd := Lib.hid (set_duty (d := d) x (by omega))
            have hsl := duty_len Hsd.out
            clear hn0
            go_wp2_with fail
            refine (Set_any d _ _ x _ (Hda.out.below hw7) hm (by omega) hx).mono ?_
            rintro e w8 ⟨AS, cS, rfl, hoS, hb8⟩
            have hw8 := hw7.trans (hb8.mono hw7.size)
            have G8 := Lib.hid (box_step hb8 G7.out)
            replace gc := box_cells G8.out
            replace gf := box_frozen G8.out
            have HS := Lib.hid (nums_of_own hoS)
            clear hoS
            go_wp2_with fail
            refine (DayC_any d _ _ _ (Hda.out.below hw8) hm).mono ?_
            rintro e w9 ⟨B19, B29, e19, e29, rfl, hd9, hb9⟩
            have hw9 := hw8.trans (hb9.mono hw8.size)
            have G9 := Lib.hid (box_step hb9 G8.out)
            replace gc := box_cells G9.out
            replace gf := box_frozen G9.out
            have HSb := Lib.hid (HS.out.below hb9)
            go_wp2_with fail
            refine (copy_any _ _ _ HSb.out (by rw [natsI_len]; omega)).mono ?_
            rintro e w10 ⟨AC, cC, rfl, hoC, hb10⟩
            have hw10 := hw9.trans (hb10.mono hw9.size)
            have G10 := Lib.hid (box_step hb10 G9.out)
            replace gc := box_cells G10.out
            replace gf := box_frozen G10.out
            have HC := Lib.hid (nums_of_own hoC)
            clear hoC
            go_wp2_with fail
            refine (LegalS_any d _ _ _ _ _ (hd9.below hb10) hm Hf.out HC.out Hsd.out).mono ?_
            rintro e w11 ⟨rfl, hb11⟩
            have hw11 := hw10.trans (hb11.mono hw10.size)
            have G11 := Lib.hid (box_step hb11 G10.out)
            replace gc := box_cells G11.out
            replace gf := box_frozen G11.out
            have HS4 := Lib.hid (HSb.out.below (hb10.trans (hb11.mono hb10.size)))
            have HT4 := Lib.hid (HT3.out.below (hb8.trans ((hb9.trans ((hb10.trans (hb11.mono hb10.size)).mono hb9.size)).mono hb8.size)))
            clear HS HSb HC HT3 hTL hd9
            have hno : ∀ s, s ∈ setL (segN d.blocks) x → legalL d (setL (segN d.blocks) x) = true → s ∉ barredL d := fun s hs hl hb => by
              have := (mem_barred.1 hb).2
              rw [legal_single Hd.out Hsd.out hl hs] at this
              cases this
            have Hno := Lib.hid hno
            clear hno
            generalize setL (segN d.blocks) x = X at *
            generalize hL : legalL d X = L at *
            have hXl := natsI_len X
            rw [hXl] at HS4 ⊢
            clear hL
            cases L with
            | false =>
              go_wp2
              go_loop [17] (fun i => ∃ k : Nat, k ≤ X.length ∧ i = .int .i64 k) (fun i => X.length - (intOf i).toNat)
              case atStart => exact ⟨0, by omega, rfl⟩
              case round =>
                obtain ⟨k, hk, rfl⟩ := hrel
                by_cases hlt : k < X.length
                · go_wp2
                  go_round
                  case rel => exact ⟨k + 1, by omega, by go_num⟩
                  case measure => simp [intOf]; omega
                · have hkI : ¬ (k : Int) < (X.length : Int) := by omega
                  go_wp2_with fail
                  refine (wakes_any _).mono ?_
                  rintro e w12 ⟨rfl, hb12⟩
                  have hw12 := hw11.trans (hb12.mono hw11.size)
                  have G12 := Lib.hid (box_step hb12 G11.out)
                  replace gc := box_cells G12.out
                  replace gf := box_frozen G12.out
                  go_wp2
                  go_ret
                  exact ⟨rfl, hw12⟩
            | true =>
              go_wp2
              go_loop [17] (fun i => ∃ k : Nat, k ≤ X.length ∧ i = .int .i64 k) (fun i => X.length - (intOf i).toNat)
              case atStart => exact ⟨0, by omega, rfl⟩
              case round =>
                obtain ⟨k, hk, rfl⟩ := hrel
                by_cases hlt : k < X.length
                · obtain ⟨b, o, y, rfl, hy, cy, _⟩ := HS4.out.at_ (k := k) (by omega)
                  obtain ⟨s, rfl, hs⟩ := natsI_get hy
                  have hfalse : decide ((s : Int) ∈ natsI (barredL d)) = false := by
                    rw [decide_eq_false_iff_not, mem_natsI]
                    exact Hno.out s (List.mem_of_getElem? hs) (by trivial)
                  have Hfalse := Lib.hid hfalse
                  have hkI : (k : Int) < (X.length : Int) := by omega
                  clear hfalse hy hs
                  go_wp2_with (go_at_call 19; refine (Same.to Hfalse.out (Has_any _ _ _ _ HT4.out)).mono ?_; rintro e wh ⟨rfl, rfl⟩)
                  go_round
                  case rel => exact ⟨k + 1, by omega, by go_num⟩
                  case measure => simp [intOf]; omega
                · have hkI : ¬ (k : Int) < (X.length : Int) := by omega
                  go_wp2_with fail
                  refine (wakes_any _).mono ?_
                  rintro e w12 ⟨rfl, hb12⟩
                  have hw12 := hw11.trans (hb12.mono hw11.size)
                  have G12 := Lib.hid (box_step hb12 G11.out)
                  replace gc := box_cells G12.out
                  replace gf := box_frozen G12.out
                  go_wp2
                  go_ret
                  exact ⟨rfl, hw12⟩
  · skip
    have hcan : (bestV d).can = false := by
      cases hc : (bestV d).can with
      | true => exact absurd (Hbb.out.1 hc) hB
      | false => rfl
    have Hcan := Lib.hid hcan
    have HB := Lib.hid hB
    clear hcan hB
    obtain ⟨AT, cT, rfl, hT⟩ := Hbs.out HB.out
    have HT3 := Lib.hid hT
    clear hT
    clear Hbn Hbs
    go_wp2_with fail
    refine (DayC_any d _ _ _ (Hda.out.below hw3) hm).mono ?_
    rintro e w4 ⟨B14, B24, e14, e24, rfl, hd4, hb4⟩
    have hw4 := hw3.trans (hb4.mono hw3.size)
    have G4 := Lib.hid (box_step hb4 G3.out)
    replace gc := box_cells G4.out
    replace gf := box_frozen G4.out
    go_wp2_with fail
    refine (Best_any d _ _ _ hd4 hm).mono ?_
    rintro e w5 ⟨hb5, _, hbn, hbs⟩
    clear hd4
    obtain rfl := hbn Hf.out Hcan.out
    clear hbn hbs
    have hw5 := hw4.trans (hb5.mono hw4.size)
    have G5 := Lib.hid (box_step hb5 G4.out)
    replace gc := box_cells G5.out
    replace gf := box_frozen G5.out
    have HT := Lib.hid (HT3.out.below (hb4.trans (hb5.mono hb4.size)))
    clear HT3
    have hlen : (((barredL d).length : Int) == 0) = false := by
      have := List.length_pos_iff.2 HB.out
      rw [Bool.eq_false_iff]
      simp only [ne_eq, beq_iff_eq]
      omega
    generalize hLL : (barredL d).length = LL at *
    have HLL := Lib.hid hLL
    clear hLL
    go_wp2
    go_loopw [10] (fun i wr => ∃ k : Nat, k ≤ segN d.blocks ∧ i = .int .i64 k ∧ Below w5.heap.size w5 wr) (fun i wr => segN d.blocks - (intOf i).toNat)
    case atStart => exact ⟨0, by omega, rfl, Below.refl _ _⟩
    case round =>
      obtain ⟨k, hk, rfl, hbr⟩ := hrel
      obtain ⟨wo, rfl⟩ : ∃ wo : World, wo = wr := ⟨_, rfl⟩
      have hwo := hw5.trans (hbr.mono hw5.size)
      have Go := Lib.hid (box_step hbr G5.out)
      replace gc := box_cells Go.out
      replace gf := box_frozen Go.out
      have hTo := HT.out.below hbr
      go_wp2_with fail
      refine (Segments_any d _ _ _ (Hda.out.below hwo) hm).mono ?_
      rintro e w6 ⟨rfl, hb6⟩
      have hw6 := hwo.trans (hb6.mono hwo.size)
      have G6 := Lib.hid (box_step hb6 Go.out)
      replace gc := box_cells G6.out
      replace gf := box_frozen G6.out
      replace hTo := hTo.below hb6
      by_cases hlt : k < segN d.blocks
      · skip
        have Hsd := Lib.hid (single_duty hlt)
        have hmem : decide ((k : Int) ∈ natsI (barredL d)) = !legalL d [k] := by
          rw [Bool.eq_iff_iff, decide_eq_true_iff, mem_natsI, mem_barred]
          simp [hlt]
        have Hmem := Lib.hid hmem
        clear hmem
        go_wp2_with fail
        refine (DayC_any d _ _ _ (Hda.out.below hw6) hm).mono ?_
        rintro e w7 ⟨B17, B27, e17, e27, rfl, hd7, hb7⟩
        have hw7 := hw6.trans (hb7.mono hw6.size)
        have G7 := Lib.hid (box_step hb7 G6.out)
        replace gc := box_cells G7.out
        replace gf := box_frozen G7.out
        replace hTo := hTo.below hb7
        go_wp2_with fail
        have hba : Below w7.heap.size w7 (w7.alloc (.cells #[.int .i64 (k : Int)] 3)) := (Below.refl _ _).alloc (Nat.le_refl _) _
        refine (LegalS_any d _ _ _ [k] _ (hd7.below hba) hm Hf.out (one_nums w7 k) Hsd.out).mono ?_
        rintro e w8 ⟨rfl, hb8'⟩
        have hb8 := hba.trans (hb8'.mono hba.size)
        clear hba hb8' hd7
        have hw8 := hw7.trans (hb8.mono hw7.size)
        have G8 := Lib.hid (box_step hb8 G7.out)
        replace gc := box_cells G8.out
        replace gf := box_frozen G8.out
        replace hTo := hTo.below hb8
        generalize hL : legalL d [k] = L at *
        clear hL
        cases L with
        | true =>
          simp only [Bool.not_true, Bool.not_false] at Hmem
          go_wp2_with (go_at_call 19; refine (Same.to Hmem.out (Has_any _ _ _ _ hTo)).mono ?_; rintro e wh ⟨rfl, rfl⟩)
          go_roundw
          case rel => exact ⟨k + 1, by omega, by go_num, hbr.trans ((hb6.trans ((hb7.trans (hb8.mono hb7.size)).mono hb6.size)).mono hbr.size)⟩
          case measure => simp [intOf]; omega
        | false =>
          simp only [Bool.not_true, Bool.not_false] at Hmem
          go_wp2_with (go_at_call 19; refine (Same.to Hmem.out (Has_any _ _ _ _ hTo)).mono ?_; rintro e wh ⟨rfl, rfl⟩)
          go_roundw
          case rel => exact ⟨k + 1, by omega, by go_num, hbr.trans ((hb6.trans ((hb7.trans (hb8.mono hb7.size)).mono hb6.size)).mono hbr.size)⟩
          case measure => simp [intOf]; omega
      · obtain rfl : k = segN d.blocks := by omega
        have HT2 := Lib.hid hTo
        clear hTo HT
        go_wp2
        go_loopw [13] (fun i wr => ∃ k : Nat, 1 ≤ k ∧ i = .int .i64 k ∧ Below w6.heap.size w6 wr) (fun i wr => LL + 1 - (intOf i).toNat)
        case atStart => exact ⟨1, by omega, rfl, Below.refl _ _⟩
        case round =>
          obtain ⟨k, hk1, rfl, hbr2⟩ := hrel
          obtain ⟨wp, rfl⟩ : ∃ wp : World, wp = wr := ⟨_, rfl⟩
          have hwp := hw6.trans (hbr2.mono hw6.size)
          have Gp := Lib.hid (box_step hbr2 G6.out)
          replace gc := box_cells Gp.out
          replace gf := box_frozen Gp.out
          have hTo := HT2.out.below hbr2
          by_cases hkl : k < LL
          · skip
            obtain ⟨j, hj⟩ : ∃ j, k = j + 1 := ⟨k - 1, by omega⟩
            have hLT : (natsI (barredL d)).length = LL := by rw [natsI_len]; exact HLL.out
            obtain ⟨b, o, y, rfl, hy, cy, _⟩ := hTo.at_ (k := k) (by omega)
            obtain ⟨b', o', y', e', hy', cy', _⟩ := hTo.at_ (k := j) (by omega)
            cases e'
            have hlt2 : decide (y ≤ y') = false := by
              obtain ⟨s, rfl, hs⟩ := natsI_get hy
              obtain ⟨s', rfl, hs'⟩ := natsI_get hy'
              have hp := barred_asc d
              rw [List.pairwise_iff_getElem] at hp
              obtain ⟨i1, e1⟩ := List.getElem?_eq_some_iff.1 hs
              obtain ⟨i2, e2⟩ := List.getElem?_eq_some_iff.1 hs'
              have := hp j k i2 i1 (by omega)
              rw [e1, e2] at this
              simp
              omega
            have q1 : IntKind.i64.wrap ((k : Int) - 1) = (j : Int) := by rw [IntWalk.i64_in _ (by omega)]; omega
            have q2 : (k : Int) - 1 = (j : Int) := by omega
            have q3 : (j : Int) < (LL : Int) := by omega
            have q4 : (k : Int) < (LL : Int) := by omega
            have f1 := Later.cell cy
            have f2 := Later.cell cy'
            clear hy hy' hTo hLT hj
            go_wp2_with fail
            refine wp_region_later (by kernel_rfl) (by kernel_rfl) ?_
            repeat (go_big_quiet_step (fail))
            refine wpQuiet_nil ?_
            intro w4 hx4
            have hb4 := Later.out hx4
            clear hx4 f1 f2
            go_wp2
            go_roundw
            case rel => exact ⟨k + 1, by omega, by go_num, hbr2.trans (hb4.mono hbr2.size)⟩
            case measure => simp [intOf]; omega
          · have hkI : ¬ (k : Int) < (LL : Int) := by omega
            have hTL := Lib.hid hTo
            clear hTo
            go_wp2_with fail
            refine (Segments_any d _ _ _ (Hda.out.below hwp) hm).mono ?_
            rintro e w7 ⟨rfl, hb7⟩
            have hw7 := hwp.trans (hb7.mono hwp.size)
            have G7 := Lib.hid (box_step hb7 Gp.out)
            replace gc := box_cells G7.out
            replace gf := box_frozen G7.out
            have HT3 := Lib.hid (hTL.out.below hb7)
            by_cases hn0 : segN d.blocks = 0
            · skip
              have hn0I : ((segN d.blocks : Int) == 0) = true := by simp; omega
              clear hn0
              go_wp2_with fail
              refine (wakes_any _).mono ?_
              rintro e w8 ⟨rfl, hb8⟩
              have hw8 := hw7.trans (hb8.mono hw7.size)
              have G8 := Lib.hid (box_step hb8 G7.out)
              replace gc := box_cells G8.out
              replace gf := box_frozen G8.out
              go_wp2
              go_ret
              exact ⟨rfl, hw8⟩
            · skip
              have hn0I : ((segN d.blocks : Int) == 0) = false := by rw [Bool.eq_false_iff]; simp only [ne_eq, beq_iff_eq]; omega
              have Hsd := Lib.hid (set_duty (d := d) x (by omega))
              have hsl := duty_len Hsd.out
              clear hn0
              go_wp2_with fail
              refine (Set_any d _ _ x _ (Hda.out.below hw7) hm (by omega) hx).mono ?_
              rintro e w8 ⟨AS, cS, rfl, hoS, hb8⟩
              have hw8 := hw7.trans (hb8.mono hw7.size)
              have G8 := Lib.hid (box_step hb8 G7.out)
              replace gc := box_cells G8.out
              replace gf := box_frozen G8.out
              have HS := Lib.hid (nums_of_own hoS)
              clear hoS
              go_wp2_with fail
              refine (DayC_any d _ _ _ (Hda.out.below hw8) hm).mono ?_
              rintro e w9 ⟨B19, B29, e19, e29, rfl, hd9, hb9⟩
              have hw9 := hw8.trans (hb9.mono hw8.size)
              have G9 := Lib.hid (box_step hb9 G8.out)
              replace gc := box_cells G9.out
              replace gf := box_frozen G9.out
              have HSb := Lib.hid (HS.out.below hb9)
              go_wp2_with fail
              refine (copy_any _ _ _ HSb.out (by rw [natsI_len]; omega)).mono ?_
              rintro e w10 ⟨AC, cC, rfl, hoC, hb10⟩
              have hw10 := hw9.trans (hb10.mono hw9.size)
              have G10 := Lib.hid (box_step hb10 G9.out)
              replace gc := box_cells G10.out
              replace gf := box_frozen G10.out
              have HC := Lib.hid (nums_of_own hoC)
              clear hoC
              go_wp2_with fail
              refine (LegalS_any d _ _ _ _ _ (hd9.below hb10) hm Hf.out HC.out Hsd.out).mono ?_
              rintro e w11 ⟨rfl, hb11⟩
              have hw11 := hw10.trans (hb11.mono hw10.size)
              have G11 := Lib.hid (box_step hb11 G10.out)
              replace gc := box_cells G11.out
              replace gf := box_frozen G11.out
              have HS4 := Lib.hid (HSb.out.below (hb10.trans (hb11.mono hb10.size)))
              have HT4 := Lib.hid (HT3.out.below (hb8.trans ((hb9.trans ((hb10.trans (hb11.mono hb10.size)).mono hb9.size)).mono hb8.size)))
              clear HS HSb HC HT3 hTL hd9
              have hno : ∀ s, s ∈ setL (segN d.blocks) x → legalL d (setL (segN d.blocks) x) = true → s ∉ barredL d := fun s hs hl hb => by
                have := (mem_barred.1 hb).2
                rw [legal_single Hd.out Hsd.out hl hs] at this
                cases this
              have Hno := Lib.hid hno
              clear hno
              generalize setL (segN d.blocks) x = X at *
              generalize hL : legalL d X = L at *
              have hXl := natsI_len X
              rw [hXl] at HS4 ⊢
              clear hL
              cases L with
              | false =>
                go_wp2
                go_loop [17] (fun i => ∃ k : Nat, k ≤ X.length ∧ i = .int .i64 k) (fun i => X.length - (intOf i).toNat)
                case atStart => exact ⟨0, by omega, rfl⟩
                case round =>
                  obtain ⟨k, hk, rfl⟩ := hrel
                  by_cases hlt : k < X.length
                  · go_wp2
                    go_round
                    case rel => exact ⟨k + 1, by omega, by go_num⟩
                    case measure => simp [intOf]; omega
                  · have hkI : ¬ (k : Int) < (X.length : Int) := by omega
                    go_wp2_with fail
                    refine (wakes_any _).mono ?_
                    rintro e w12 ⟨rfl, hb12⟩
                    have hw12 := hw11.trans (hb12.mono hw11.size)
                    have G12 := Lib.hid (box_step hb12 G11.out)
                    replace gc := box_cells G12.out
                    replace gf := box_frozen G12.out
                    go_wp2
                    go_ret
                    exact ⟨rfl, hw12⟩
              | true =>
                go_wp2
                go_loop [17] (fun i => ∃ k : Nat, k ≤ X.length ∧ i = .int .i64 k) (fun i => X.length - (intOf i).toNat)
                case atStart => exact ⟨0, by omega, rfl⟩
                case round =>
                  obtain ⟨k, hk, rfl⟩ := hrel
                  by_cases hlt : k < X.length
                  · obtain ⟨b, o, y, rfl, hy, cy, _⟩ := HS4.out.at_ (k := k) (by omega)
                    obtain ⟨s, rfl, hs⟩ := natsI_get hy
                    have hfalse : decide ((s : Int) ∈ natsI (barredL d)) = false := by
                      rw [decide_eq_false_iff_not, mem_natsI]
                      exact Hno.out s (List.mem_of_getElem? hs) (by trivial)
                    have Hfalse := Lib.hid hfalse
                    have hkI : (k : Int) < (X.length : Int) := by omega
                    clear hfalse hy hs
                    go_wp2_with (go_at_call 19; refine (Same.to Hfalse.out (Has_any _ _ _ _ HT4.out)).mono ?_; rintro e wh ⟨rfl, rfl⟩)
                    go_round
                    case rel => exact ⟨k + 1, by omega, by go_num⟩
                    case measure => simp [intOf]; omega
                  · have hkI : ¬ (k : Int) < (X.length : Int) := by omega
                    go_wp2_with fail
                    refine (wakes_any _).mono ?_
                    rintro e w12 ⟨rfl, hb12⟩
                    have hw12 := hw11.trans (hb12.mono hw11.size)
                    have G12 := Lib.hid (box_step hb12 G11.out)
                    replace gc := box_cells G12.out
                    replace gf := box_frozen G12.out
                    go_wp2
                    go_ret
                    exact ⟨rfl, hw12⟩
theorem Barred_law (d : DDay) (u z : Value) (x : Nat) (w : World) (hda : DayAt w u z d) (hx : x < 65536) :
    Calls Try.prog 8 #[.agg #[.int .i64 d.law.piece, .int .i64 d.law.drive, .int .i64 d.law.spread, .int .i64 d.law.brk, .int .i64 d.law.on, .int .i64 d.law.off, .int .i64 d.law.least, .int .i64 d.law.pieces, u, z], .int .u16 (x : Int)] w (Gives w (.bool true)) := by
  cases hl : lightB d with
  | false => exact Barred_dark d u z x w hda hx hl
  | true => exact Barred_light d u z x w hda hx hl
end Go.Proofs.Ytllobkhdeahgpaa
