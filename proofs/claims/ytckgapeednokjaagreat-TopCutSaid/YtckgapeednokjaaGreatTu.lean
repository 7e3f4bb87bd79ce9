import Derived.Test.YtckgapeednokjaaGreatTt
set_option linter.unusedVariables false
set_option linter.unusedSimpArgs false
namespace Go.Proofs.YtckgapeednokjaaGreat
open Go Go.Proofs Go.RowKit

/-! ### TopCut -/
set_option maxRecDepth 100000 in
set_option maxHeartbeats 12800000 in
theorem TopCut_law (t : Tab) (law : DLaw) (u z v : Value) (ws : List Int) (w : World) (hT : TabAt w u z t) (hv : NumsAt .u16 w v ws) (hw : ∀ y ∈ ws, 0 ≤ y ∧ y ≤ 65535) :
    Calls Tryz.prog 4 #[.agg #[.int .i64 t.places, .int .i64 t.lay, u, z], .agg #[.int .i64 law.piece, .int .i64 law.drive, .int .i64 law.spread, .int .i64 law.brk, .int .i64 law.on, .int .i64 law.off, .int .i64 law.least, .int .i64 law.pieces], v] w (Gives w (.bool true)) := by
  obtain ⟨i0, hi0, hz0, hz1, hz2⟩ := info_parts infoI
  obtain ⟨i1, hi1, hy0, hy1, hy2⟩ := info_parts infoR
  obtain ⟨A1, c1, rfl, _, _⟩ := hT.rows.form
  obtain ⟨A2, c2, rfl, _, _⟩ := hT.trips.form
  obtain ⟨AW, cW, rfl, _, _⟩ := hv.form
  have HT := Lib.hid hT
  have Hv := Lib.hid hv
  have Hw := Lib.hid hw
  have hw0 : Below w.heap.size w ((w.alloc (.cells #[.int .i64 t.places, .int .i64 t.lay, .slice A1 t.empty.length c1, .slice A2 t.trips.length c2] 48)).alloc (.cells #[.int .i64 law.piece, .int .i64 law.drive, .int .i64 law.spread, .int .i64 law.brk, .int .i64 law.on, .int .i64 law.off, .int .i64 law.least, .int .i64 law.pieces] 50)) := two_belowT w _ _
  have G0 := Lib.hid ((Below.heap_alloc (w.alloc (.cells #[.int .i64 t.places, .int .i64 t.lay, .slice A1 t.empty.length c1, .slice A2 t.trips.length c2] 48)) (.cells #[.int .i64 law.piece, .int .i64 law.drive, .int .i64 law.spread, .int .i64 law.brk, .int .i64 law.on, .int .i64 law.off, .int .i64 law.least, .int .i64 law.pieces] 50) w.heap.size (by simp)).trans (heap_alloc_new w (.cells #[.int .i64 t.places, .int .i64 t.lay, .slice A1 t.empty.length c1, .slice A2 t.trips.length c2] 48)))
  have J0 := Lib.hid (heap_alloc2_new w (.cells #[.int .i64 t.places, .int .i64 t.lay, .slice A1 t.empty.length c1, .slice A2 t.trips.length c2] 48) (.cells #[.int .i64 law.piece, .int .i64 law.drive, .int .i64 law.spread, .int .i64 law.brk, .int .i64 law.on, .int .i64 law.off, .int .i64 law.least, .int .i64 law.pieces] 50))
  clear hT hv hw
  go_enter Tryz.func4, Tryz.ntmps4
  have gc := box_cells G0.out
  have gf := box_frozen G0.out
  have jc := box_cells J0.out
  have jf := box_frozen J0.out
  go_wp2_with fail
  refine (Thin1_any t _ _ _ (HT.out.below hw0)).mono ?_
  rintro e w1 ⟨b1, rfl, hb1⟩
  have hw1 := hw0.trans (hb1.mono hw0.size)
  have G1 := Lib.hid (box_stepR hb1 G0.out)
  replace gc := box_cells G1.out
  replace gf := box_frozen G1.out
  have J1 := Lib.hid (box_stepR hb1 J0.out)
  replace jc := box_cells J1.out
  replace jf := box_frozen J1.out
  cases b1 with
  | false =>
    go_wp2_with fail
    refine (cuts_any _).mono ?_
    rintro e w2 ⟨rfl, hb2⟩
    have hw2 := hw1.trans (hb2.mono hw1.size)
    have G2 := Lib.hid (box_stepR hb2 G1.out)
    replace gc := box_cells G2.out
    replace gf := box_frozen G2.out
    have J2 := Lib.hid (box_stepR hb2 J1.out)
    replace jc := box_cells J2.out
    replace jf := box_frozen J2.out
    go_wp2
    go_ret
    exact ⟨rfl, hw2⟩
  | true =>
    go_wp2_with fail
    refine (Fault1_any t _ _ _ (HT.out.below hw1)).mono ?_
    rintro e w2 ⟨nF, rfl, hF, hb2⟩
    have hw2 := hw1.trans (hb2.mono hw1.size)
    have G2 := Lib.hid (box_stepR hb2 G1.out)
    replace gc := box_cells G2.out
    replace gf := box_frozen G2.out
    have J2 := Lib.hid (box_stepR hb2 J1.out)
    replace jc := box_cells J2.out
    replace jf := box_frozen J2.out
    by_cases hz : nF = 0
    · subst hz
      have Ht := Lib.hid (hF rfl)
      clear hF
      have h12 := Ht.out.trips
      go_wp2_with fail
      refine (Table1_any t _ _ _ (HT.out.below hw2) Ht.out).mono ?_
      rintro e w3 ⟨TA, TB, tc, tb, rfl, hTp, hb3⟩
      have hw3 := hw2.trans (hb3.mono hw2.size)
      have G3 := Lib.hid (box_stepR hb3 G2.out)
      replace gc := box_cells G3.out
      replace gf := box_frozen G3.out
      have J3 := Lib.hid (box_stepR hb3 J2.out)
      replace jc := box_cells J3.out
      replace jf := box_frozen J3.out
      go_wp2_with fail
      refine (Cut_any t _ _ _ hTp Ht.out).mono ?_
      rintro e w4 ⟨c, CA, cK, rfl, hcr, hcc, hb4⟩
      have hw4 := hw3.trans (hb4.mono hw3.size)
      have G4 := Lib.hid (box_stepR hb4 G3.out)
      replace gc := box_cells G4.out
      replace gf := box_frozen G4.out
      have J4 := Lib.hid (box_stepR hb4 J3.out)
      replace jc := box_cells J4.out
      replace jf := box_frozen J4.out
      have Hcc := Lib.hid hcc
      clear hTp hcc
      have hC12 : c.length ≤ 12 := by
        have h1 := blocks_len Hcc.out.ne
        rw [Hcc.out.all] at h1
        omega
      go_wp2_with fail
      refine (IsCutting_ok t _ _ _ c _ (HT.out.below hw4) Ht.out hcr Hcc.out).mono ?_
      rintro e w5 ⟨rfl, hb5⟩
      have hw5 := hw4.trans (hb5.mono hw4.size)
      have G5 := Lib.hid (box_stepR hb5 G4.out)
      replace gc := box_cells G5.out
      replace gf := box_frozen G5.out
      have J5 := Lib.hid (box_stepR hb5 J4.out)
      replace jc := box_cells J5.out
      replace jf := box_frozen J5.out
      replace hcr := hcr.below hb5
      go_wp2_with fail
      refine (Worked_any t law _ _ _ c _ (HT.out.below hw5) Ht.out hcr Hcc.out).mono ?_
      rintro e w6 ⟨DA, DB, da, db, rfl, hday, htrp, hb6⟩
      have hw6 := hw5.trans (hb6.mono hw5.size)
      have G6 := Lib.hid (box_stepR hb6 G5.out)
      replace gc := box_cells G6.out
      replace gf := box_frozen G6.out
      have J6 := Lib.hid (box_stepR hb6 J5.out)
      replace jc := box_cells J6.out
      replace jf := box_frozen J6.out
      replace hcr := hcr.below hb6
      obtain ⟨FL, hFL⟩ : ∃ FL, c.flatten.length = FL := ⟨_, rfl⟩
      rw [hFL] at htrp ⊢
      obtain ⟨d, hdd⟩ : ∃ d, workD t law c = d := ⟨_, rfl⟩
      rw [hdd] at hday
      have hbl : d.blocks = c.map (relsOf t) := by rw [← hdd]; rfl
      have hlw : law = d.law := by rw [← hdd]; rfl
      clear hdd
      subst hlw
      have hsg : segN d.blocks = FL := by rw [hbl, work_segs, hFL]
      have hall := Hcc.out.all
      have hn12 : segN d.blocks ≤ 12 := by rw [hsg, ← hFL]; omega
      have hbn : d.blocks.length = c.length := by rw [hbl, List.length_map]
      have Hbl := Lib.hid hbl
      have Hsg := Lib.hid hsg
      have hF12 : FL ≤ 12 := by rw [← hsg]; exact hn12
      have hFn : FL = t.trips.length := by rw [← hFL]; exact hall
      have HFn := Lib.hid hFn
      have HFL := Lib.hid hFL
      clear hFn hFL
      have Hbn := Lib.hid hbn
      clear hbl hsg hall hbn
      go_upto_region 7 with (fail)
      refine wp_name (fun V => Below w6.heap.size w6 V ∧ V.heap[w6.heap.size]? = some (.cells #[.int .i64 d.law.piece, .int .i64 d.law.drive, .int .i64 d.law.spread, .int .i64 d.law.brk, .int .i64 d.law.on, .int .i64 d.law.off, .int .i64 d.law.least, .int .i64 d.law.pieces, .slice DA c.length da, .slice A1 t.empty.length c1] 63 (0, 0))) ⟨(Below.refl _ _).alloc (Nat.le_refl _) _, heap_alloc_new _ _⟩ (fun wD hW => ?_)
      obtain ⟨hbD, hD⟩ := hW
      have KD := Lib.hid hD
      clear hD
      replace htrp := htrp.below hbD
      replace hday := hday.below hbD
      obtain ⟨DX, hDX⟩ : ∃ DX, w6.heap.size = DX := ⟨_, rfl⟩
      rw [hDX] at KD ⊢
      clear hDX
      have hwD := hw6.trans (hbD.mono hw6.size)
      have GD := Lib.hid (box_stepR hbD G6.out)
      replace gc := box_cells GD.out
      replace gf := box_frozen GD.out
      have JD := Lib.hid (box_stepR hbD J6.out)
      replace jc := box_cells JD.out
      replace jf := box_frozen JD.out
      replace hcr := hcr.below hbD
      have kc := box_cells KD.out
      have kf := box_frozen KD.out
      cases hth : thinD d with
      | false =>
        have Hth := Lib.hid hth
        clear hth
        go_wp2_with fail
        refine (Gives.to Hth.out (Thin_any d _ _ _ hday)).mono ?_
        rintro e w7 ⟨rfl, hb7⟩
        have hw7 := hwD.trans (hb7.mono hwD.size)
        have G7 := Lib.hid (box_stepR hb7 GD.out)
        replace gc := box_cells G7.out
        replace gf := box_frozen G7.out
        have J7 := Lib.hid (box_stepR hb7 JD.out)
        replace jc := box_cells J7.out
        replace jf := box_frozen J7.out
        have K7 := Lib.hid (box_stepR hb7 KD.out)
        replace kc := box_cells K7.out
        replace kf := box_frozen K7.out
        replace hcr := hcr.below hb7
        replace htrp := htrp.below hb7
        replace hday := hday.below hb7
        go_wp2_with fail
        refine (cuts_any _).mono ?_
        rintro e w8 ⟨rfl, hb8⟩
        have hw8 := hw7.trans (hb8.mono hw7.size)
        have G8 := Lib.hid (box_stepR hb8 G7.out)
        replace gc := box_cells G8.out
        replace gf := box_frozen G8.out
        have J8 := Lib.hid (box_stepR hb8 J7.out)
        replace jc := box_cells J8.out
        replace jf := box_frozen J8.out
        have K8 := Lib.hid (box_stepR hb8 K7.out)
        replace kc := box_cells K8.out
        replace kf := box_frozen K8.out
        replace hcr := hcr.below hb8
        replace htrp := htrp.below hb8
        replace hday := hday.below hb8
        go_wp2
        go_ret
        exact ⟨rfl, hw8⟩
      | true =>
        have hm := thin_mild hth
        have Hth := Lib.hid hth
        have Hm := Lib.hid hm
        clear hth hm
        go_wp2_with fail
        refine (Gives.to Hth.out (Thin_any d _ _ _ hday)).mono ?_
        rintro e w7 ⟨rfl, hb7⟩
        have hw7 := hwD.trans (hb7.mono hwD.size)
        have G7 := Lib.hid (box_stepR hb7 GD.out)
        replace gc := box_cells G7.out
        replace gf := box_frozen G7.out
        have J7 := Lib.hid (box_stepR hb7 JD.out)
        replace jc := box_cells J7.out
        replace jf := box_frozen J7.out
        have K7 := Lib.hid (box_stepR hb7 KD.out)
        replace kc := box_cells K7.out
        replace kf := box_frozen K7.out
        replace hcr := hcr.below hb7
        replace htrp := htrp.below hb7
        replace hday := hday.below hb7
        obtain ⟨F, hF⟩ : ∃ F, faultD d = F := ⟨_, rfl⟩
        have HF := Lib.hid hF
        clear hF
        go_wp2_with fail
        refine (HF.out ▸ FaultR_any d _ _ _ hday Hm.out).mono ?_
        rintro e w8 ⟨rfl, hb8⟩
        have hw8 := hw7.trans (hb8.mono hw7.size)
        have G8 := Lib.hid (box_stepR hb8 G7.out)
        replace gc := box_cells G8.out
        replace gf := box_frozen G8.out
        have J8 := Lib.hid (box_stepR hb8 J7.out)
        replace jc := box_cells J8.out
        replace jf := box_frozen J8.out
        have K8 := Lib.hid (box_stepR hb8 K7.out)
        replace kc := box_cells K8.out
        replace kf := box_frozen K8.out
        replace hcr := hcr.below hb8
        replace htrp := htrp.below hb8
        replace hday := hday.below hb8
        by_cases hz : F = 0
        · subst hz
          have hf : (faultD d != 0) = false := by rw [HF.out]; rfl
          have Hd := Lib.hid (fault_ok hf)
          have Hbb := Lib.hid (barred_best (fault_ok hf))
          have Hf := Lib.hid hf
          clear hf
          go_wp2_with fail
          refine (DayC_any d _ _ _ hday Hm.out).mono ?_
          rintro e w9 ⟨B19, B29, e19, e29, rfl, hd9, hb9⟩
          have hw9 := hw8.trans (hb9.mono hw8.size)
          have G9 := Lib.hid (box_stepR hb9 G8.out)
          replace gc := box_cells G9.out
          replace gf := box_frozen G9.out
          have J9 := Lib.hid (box_stepR hb9 J8.out)
          replace jc := box_cells J9.out
          replace jf := box_frozen J9.out
          have K9 := Lib.hid (box_stepR hb9 K8.out)
          replace kc := box_cells K9.out
          replace kf := box_frozen K9.out
          replace hcr := hcr.below hb9
          replace htrp := htrp.below hb9
          replace hday := hday.below hb9
          go_wp2_with fail
          refine (Best_any d _ _ _ hd9 Hm.out).mono ?_
          rintro e w10 ⟨hb10, _, hbn, hbs⟩
          clear hd9
          have hw10 := hw9.trans (hb10.mono hw9.size)
          have G10 := Lib.hid (box_stepR hb10 G9.out)
          replace gc := box_cells G10.out
          replace gf := box_frozen G10.out
          have J10 := Lib.hid (box_stepR hb10 J9.out)
          replace jc := box_cells J10.out
          replace jf := box_frozen J10.out
          have K10 := Lib.hid (box_stepR hb10 K9.out)
          replace kc := box_cells K10.out
          replace kf := box_frozen K10.out
          replace hcr := hcr.below hb10
          replace htrp := htrp.below hb10
          replace hday := hday.below hb10
          cases hcan : (bestV d).can with
          | false =>
            obtain rfl := hbn Hf.out hcan
            have hbar : barredL d ≠ [] := fun h => by rw [Hbb.out.2 h] at hcan; cases hcan
            clear hbn hbs hcan
            go_wp2_with fail
            refine (DayC_any d _ _ _ hday Hm.out).mono ?_
            rintro e w11 ⟨B111, B211, e111, e211, rfl, hd11, hb11⟩
            have hw11 := hw10.trans (hb11.mono hw10.size)
            have G11 := Lib.hid (box_stepR hb11 G10.out)
            replace gc := box_cells G11.out
            replace gf := box_frozen G11.out
            have J11 := Lib.hid (box_stepR hb11 J10.out)
            replace jc := box_cells J11.out
            replace jf := box_frozen J11.out
            have K11 := Lib.hid (box_stepR hb11 K10.out)
            replace kc := box_cells K11.out
            replace kf := box_frozen K11.out
            replace hcr := hcr.below hb11
            replace htrp := htrp.below hb11
            replace hday := hday.below hb11
            go_wp2_with fail
            refine (Barred_any d _ _ _ hd11 Hm.out).mono ?_
            rintro e w12 ⟨hb12, _, _, hbs⟩
            obtain ⟨AT, cT, rfl, hLT⟩ := hbs Hf.out hbar
            clear hd11 hbs
            have hw12 := hw11.trans (hb12.mono hw11.size)
            have G12 := Lib.hid (box_stepR hb12 G11.out)
            replace gc := box_cells G12.out
            replace gf := box_frozen G12.out
            have J12 := Lib.hid (box_stepR hb12 J11.out)
            replace jc := box_cells J12.out
            replace jf := box_frozen J12.out
            have K12 := Lib.hid (box_stepR hb12 K11.out)
            replace kc := box_cells K12.out
            replace kf := box_frozen K12.out
            replace hcr := hcr.below hb12
            replace htrp := htrp.below hb12
            replace hday := hday.below hb12
            obtain ⟨x, rest, hxr⟩ : ∃ x rest, barredL d = x :: rest := by
              cases e : barredL d with
              | nil => exact absurd e hbar
              | cons a l => exact ⟨a, l, rfl⟩
            have hxs : x < FL := by
              rw [← Hsg.out]
              exact (mem_barred.1 (by rw [hxr]; simp)).1
            rw [hxr] at hLT ⊢
            obtain ⟨b5, o5, y5, e5, hy5, cy5, _⟩ := hLT.at_ (k := 0) (by simp [natsI])
            cases e5
            obtain rfl : y5 = (x : Int) := by simpa [natsI] using hy5.symm
            simp only [List.length_cons, Nat.add_zero] at cy5 ⊢
            have hxI : (x : Int) < (FL : Int) := by omega
            clear hxr hbar hLT hy5
            go_wp2_with fail
            refine (cuts_any _).mono ?_
            rintro e w13 ⟨rfl, hb13⟩
            have hw13 := hw12.trans (hb13.mono hw12.size)
            have G13 := Lib.hid (box_stepR hb13 G12.out)
            replace gc := box_cells G13.out
            replace gf := box_frozen G13.out
            have J13 := Lib.hid (box_stepR hb13 J12.out)
            replace jc := box_cells J13.out
            replace jf := box_frozen J13.out
            have K13 := Lib.hid (box_stepR hb13 K12.out)
            replace kc := box_cells K13.out
            replace kf := box_frozen K13.out
            replace hcr := hcr.below hb13
            replace htrp := htrp.below hb13
            replace hday := hday.below hb13
            go_wp2
            go_ret
            exact ⟨rfl, hw13⟩
          | true =>
            obtain ⟨PA, Pc, rfl, hP⟩ := hbs Hf.out hcan
            have hpl := best_plan (d := d) (by omega) hcan
            have hfew := best_few Hd.out hcan
            generalize (bestV d).pay = BP
            obtain ⟨pl, hple⟩ : ∃ pl, bestP d = pl := ⟨_, rfl⟩
            rw [hple] at hP hpl hfew ⊢
            have Hpl := Lib.hid hpl
            have hpl10 : pl.length ≤ 12 := by omega
            clear hbn hbs hcan hple hpl hfew
            go_wp2_with fail
            refine (Picked_any t _ _ _ ws _ (HT.out.below hw10) Ht.out (Hv.out.below hw10) Hw.out).mono ?_
            rintro e w11 ⟨ts, QA, Qc, rfl, htl, hts, hQ, hb11⟩
            have hw11 := hw10.trans (hb11.mono hw10.size)
            have G11 := Lib.hid (box_stepR hb11 G10.out)
            replace gc := box_cells G11.out
            replace gf := box_frozen G11.out
            have J11 := Lib.hid (box_stepR hb11 J10.out)
            replace jc := box_cells J11.out
            replace jf := box_frozen J11.out
            have K11 := Lib.hid (box_stepR hb11 K10.out)
            replace kc := box_cells K11.out
            replace kf := box_frozen K11.out
            replace hcr := hcr.below hb11
            replace htrp := htrp.below hb11
            replace hday := hday.below hb11
            replace hP := hP.below hb11
            have htru := min_truth Ht.out Hcc.out hts
            rw [← Hbl.out] at htru
            have Htru := Lib.hid htru
            have Htl := Lib.hid htl
            have Hts := Lib.hid hts
            have Hcr := Lib.hid hcr
            have Htrp := Lib.hid htrp
            have Hday := Lib.hid hday
            have HP := Lib.hid hP
            have HQ := Lib.hid hQ
            clear htru htl hts hcr htrp hday hP hQ
            go_wp2
            go_loopw [17, 18] (fun x i wr => ∃ (k : Nat) (A' : Option Addr) (c' : Nat) (us : List Value), k ≤ c.length ∧ i = .int .i64 k ∧ x = .slice A' k c' ∧ Below w11.heap.size w11 wr ∧ wr.ownsRow w11.heap.size 29 1 (.slice A' k c') k us ∧ RowsOwn wr w11.heap.size us ((c.take k).map (minRow t ts))) (fun x i wr => c.length - (intOf i).toNat)
            case atStart => exact ⟨0, none, 0, [], by omega, rfl, rfl, Below.refl _ _, World.ownsRow_nil _ _ _ _, ⟨rfl, fun j l h => (by simp at h)⟩⟩
            case round =>
              obtain ⟨k, A', c', us, hk, rfl, rfl, hbr, hown, hro⟩ := hrel
              obtain ⟨wo, rfl⟩ : ∃ wo : World, wo = wr := ⟨_, rfl⟩
              have Hown := Lib.hid hown
              have Hro := Lib.hid hro
              have Hbr := Lib.hid hbr
              have hsr := hbr.size
              clear hown hro
              by_cases hlt : k < c.length
              · skip
                obtain ⟨b, hb⟩ : ∃ b, c[k]? = some b := ⟨_, List.getElem?_eq_getElem hlt⟩
                obtain ⟨M, hMb⟩ : ∃ M, b.length = M := ⟨_, rfl⟩
                have hne := Hcc.out.ne b (List.mem_of_getElem? hb)
                have hM0 : 0 < M := by rw [← hMb]; exact List.length_pos_iff.2 hne
                have hlast := lastOf_idx hne
                obtain ⟨b1, o1, l1, u1, eA, hl1, hu1, hn1, _⟩ := Hcr.out.at_ (k := k) (by rw [List.length_map]; exact hlt)
                cases eA
                obtain ⟨A4, c4, rfl, _, _⟩ := hn1.form
                have hle : l1 = natsI b := by rw [List.getElem?_map, hb] at hl1; simpa using hl1.symm
                subst hle
                rw [natsI_len, hMb] at hu1 hn1
                have hM12 : M ≤ 12 := by
                  have h1 : c.flatten = (c.take (k + 1)).flatten ++ (c.drop (k + 1)).flatten := by rw [← List.flatten_append, List.take_append_drop]
                  have h2 := congrArg List.length h1
                  rw [Hcc.out.all, take_flat hb, List.length_append, List.length_append, hMb] at h2
                  omega
                have Hb := Lib.hid hb
                have HMb := Lib.hid hMb
                have Hn1 := Lib.hid hn1
                have Hlast := Lib.hid hlast
                have huo := cell_below hbr hu1
                have gco := box_cells (box_stepR hbr G11.out)
                clear hb hMb hl1 hn1 hlast hne hbr
                go_wp2
                go_loopw [19, 20] (fun y j wr => ∃ (m : Nat) (B : Option Addr) (cB : Nat), m ≤ M ∧ j = .int .i64 m ∧ y = .slice B m cB ∧ Below wo.heap.size wo wr ∧ wr.ownsRow wo.heap.size 3 1 (.slice B m cB) m ((startsL t (b.take m)).map (.int .i64))) (fun y j wr => M - (intOf j).toNat)
                case atStart => exact ⟨0, none, 0, by omega, rfl, rfl, Below.refl _ _, World.ownsRow_nil _ _ _ _⟩
                case round =>
                  obtain ⟨m, B, cB, hm, rfl, rfl, hb2, hrow⟩ := hrel
                  obtain ⟨wq, rfl⟩ : ∃ wq : World, wq = wr := ⟨_, rfl⟩
                  have Hrow := Lib.hid hrow
                  have Hb2 := Lib.hid hb2
                  have hsq := hb2.size
                  have huq := cell_below hb2 huo
                  have gcq := box_cells (box_stepR (Hbr.out.trans (hb2.mono hsr)) G11.out)
                  clear hrow
                  by_cases hmM : m < M
                  · skip
                    obtain ⟨b3, o3, yv, eA, hy, cy, _⟩ := Hn1.out.at_ (k := m) (by rw [natsI_len, HMb.out]; exact hmM)
                    cases eA
                    obtain ⟨xi, rfl, hx⟩ := natsI_get hy
                    have hxN : xi < t.trips.length := Hcc.out.lt xi (List.mem_flatten.2 ⟨b, List.mem_of_getElem? Hb.out, List.mem_of_getElem? hx⟩)
                    obtain ⟨b4, o4, x, eA, hxt, _, _, x2, _, _, _, _⟩ := (HT.out.trips.below hw11).at_ (k := xi) hxN
                    cases eA
                    have hxe : tripAt t xi = x := by unfold tripAt; rw [hxt]; rfl
                    have hxNI : (xi : Int) < (t.trips.length : Int) := by omega
                    have Hxe := Lib.hid hxe
                    have Hx := Lib.hid hx
                    replace cy := cell_below Hbr.out cy
                    replace x2 := cell_below Hbr.out x2
                    clear hy hx hxt hxe
                    go_upto_region 22 with (fail)
                    refine wp_region_noPanic ?_
                    refine wp_region_pick [0, 1, 2, 3, 4, 5, 6, 7, 8, 9, 10, 11, 12] [13, 14, 15] (fun _ => true) (fun w' => Below wo.heap.size wo w') (by kernel_rfl) (by kernel_rfl) (fun _ _ _ _ _ h => h) hb2.drew (fun hne => ?_)
                    have n0 := fun q : Meets (fun w' => Below wo.heap.size wo w') => cell_below q.property (gco 3)
                    have n1 := fun q : Meets (fun w' => Below wo.heap.size wo w') => cell_below q.property (huo)
                    have n2 := fun q : Meets (fun w' => Below wo.heap.size wo w') => cell_below q.property (cy)
                    have n3 := fun q : Meets (fun w' => Below wo.heap.size wo w') => cell_below q.property (x2)
                    simp only [pick, pickN, List.filterMap_cons, List.filterMap_nil, List.getElem?_cons_zero, List.getElem?_cons_succ, Option.map_some]
                    repeat (change wpQuiet _ _ _ _ (_ :: _) _; go_big_quiet_step (fail))
                    refine wpQuiet_nil ?_
                    clear n0 n1 n2 n3 hne
                    have B0 := hb2.drew
                    have hrow0 := own_below Hrow.out (Below.refl wq.heap.size wq).drew
                    obtain ⟨V0, hV0⟩ : ∃ V, V = wq.drew := ⟨_, rfl⟩
                    rw [← hV0] at B0 hrow0 ⊢
                    have HB0 := Lib.hid B0
                    have hV0s := B0.size
                    have Hrow0 := Lib.hid hrow0
                    clear hV0 B0 hrow0 cy x2 hb2 gcq huq
                    refine wpSeqP_step (fun K hK => ?_)
                    go_simp
                    refine hK.out _ _ (fun _ => HB0.out.alloc HB0.out.size _) ?_
                    clear hK K
                    refine wpSeqP_step (fun K hK => ?_)
                    refine step_append_src _ rfl (.tmp 129) (.tmp 142) 29 rfl wo.heap.size 3 i0 _ 1 8 Tryz.underlying29 hi0 hz0 hz1 hz2 rfl (by omega) _ m _ rfl (Hrow0.out.alloc (.cells #[.int .i64 x.start] 3)) (some ⟨V0.heap.size, 0, none⟩) 1 1 [.int .i64 x.start] rfl (src_new V0 [.int .i64 x.start] 3 1 1 rfl) (by simp [Value.oneCell']) (by unfold maxLen; omega) (by omega) (by simp; omega) ?_
                    intro A2 k2 v2 hown2 hg2 _
                    have Ac2 := Lib.hid (below_grown (HB0.out.alloc HB0.out.size (.cells #[.int .i64 x.start] 3)) hg2 (by simp; omega) (Hrow0.out.alloc _) (Nat.le_refl _))
                    have Hown2 := Lib.hid hown2
                    refine hK.out _ _ (fun _ => Ac2.out) ?_
                    clear hK K hown2 hg2
                    refine wpSeqP_step (fun K hK => ?_)
                    go_simp
                    refine hK.out _ _ (fun _ => Ac2.out) ?_
                    clear hK K
                    refine wpSeqP_nil ?_
                    refine NoPanic.normal ?_
                    go_wp2
                    go_roundw
                    case rel =>
                      refine ⟨m + 1, A2, k2, by omega, by go_num, rfl, Ac2.out, ?_⟩
                      have e : (startsL t (b.take (m + 1))).map (Value.int .i64) = (startsL t (b.take m)).map (.int .i64) ++ [.int .i64 x.start] := by
                        rw [List.take_add_one, Hx.out]
                        simp [startsL, Hxe.out]
                      rw [e]
                      exact Hown2.out
                    case measure => simp [intOf]; omega
                  · obtain rfl : m = M := by omega
                    obtain ⟨j, hj⟩ : ∃ j, m = j + 1 := ⟨m - 1, by omega⟩
                    obtain ⟨b3, o3, yv, eA, hy, cy, _⟩ := Hn1.out.at_ (k := j) (by rw [natsI_len, HMb.out]; omega)
                    cases eA
                    obtain ⟨xi, rfl, hx⟩ := natsI_get hy
                    have hxl : lastOf b = xi := by
                      have h := Hlast.out
                      rw [HMb.out, hj, Nat.add_sub_cancel, hx] at h
                      exact (Option.some.inj h).symm
                    have hxN : xi < t.trips.length := Hcc.out.lt xi (List.mem_flatten.2 ⟨b, List.mem_of_getElem? Hb.out, List.mem_of_getElem? hx⟩)
                    obtain ⟨b4, o4, x, eA, hxt, _, _, x2, _, _, _, _⟩ := (HT.out.trips.below hw11).at_ (k := xi) hxN
                    cases eA
                    obtain ⟨b5, o5, tv, eA, htv, q5, _⟩ := HQ.out.at_ (k := xi) (by rw [Htl.out]; exact hxN)
                    cases eA
                    have hxe : tripAt t xi = x := by unfold tripAt; rw [hxt]; rfl
                    have hok := Ht.out.trip x (List.mem_of_getElem? hxt)
                    have hst := hok.start
                    have hle := hok.least
                    have hmo := hok.most
                    have htb := Hts.out xi hxN
                    rw [hxe, htv, Option.getD_some] at htb
                    have q1 : IntKind.i64.wrap ((m : Int) - 1) = (j : Int) := by rw [IntWalk.i64_in _ (by omega)]; omega
                    have q2 : (m : Int) - 1 = (j : Int) := by omega
                    have q3 : (j : Int) < (m : Int) := by omega
                    have qa : IntKind.i64.wrap (x.start + tv) = x.start + tv := IntWalk.i64_in _ (by omega)
                    have hxNI : (xi : Int) < (t.trips.length : Int) := by omega
                    have hmin : (minRow t ts b).map (Value.int .i64) = (startsL t (b.take m)).map (.int .i64) ++ [.int .i64 (x.start + tv)] := by
                      unfold minRow
                      rw [hxl, hxe, htv, List.take_of_length_le (by rw [HMb.out]; exact Nat.le_refl _), List.map_append]
                      rfl
                    have Hmin := Lib.hid hmin
                    have hbq := Hbr.out.trans (hb2.mono hsr)
                    clear hy hx hxt hxe hok hxl htv hj hmin
                    go_upto_region 23 with (fail)
                    refine wp_region_noPanic ?_
                    refine wp_region_pick [0, 1, 2, 3, 4, 5, 6, 7, 8, 9, 10, 11, 12] [] (fun _ => true) (fun w' => Below w11.heap.size w11 w') (by kernel_rfl) (by kernel_rfl) (fun _ _ _ _ _ h => h) hbq.drew (fun hne => ?_)
                    have n0 := fun q : Meets (fun w' => Below w11.heap.size w11 w') => cell_below q.property (hu1)
                    have n1 := fun q : Meets (fun w' => Below w11.heap.size w11 w') => cell_below q.property (cy)
                    simp only [pick, pickN, List.filterMap_cons, List.filterMap_nil, List.getElem?_cons_zero, List.getElem?_cons_succ, Option.map_some]
                    repeat (change wpQuiet _ _ _ _ (_ :: _) _; go_big_quiet_step (fail))
                    refine wpQuiet_nil ?_
                    clear n0 n1 hne
                    have B0 := hbq.drew
                    have hb20 := hb2.drew
                    have hrow0 := own_below Hrow.out (Below.refl wq.heap.size wq).drew
                    obtain ⟨V0, hV0⟩ : ∃ V, V = wq.drew := ⟨_, rfl⟩
                    rw [← hV0] at B0 hb20 hrow0 ⊢
                    clear hV0 hb2 hbq gcq huq
                    refine wpSeqP_nil ?_
                    refine NoPanic.normal ?_
                    go_upto_region 24 with (fail)
                    refine wp_region_noPanic ?_
                    refine wp_region_pick [0, 1, 2, 3, 4, 5, 6, 7, 8, 9, 10, 11, 12] [13, 14, 15, 16, 17] (fun _ => true) (fun w' => Below w11.heap.size w11 w') (by kernel_rfl) (by kernel_rfl) (fun _ _ _ _ _ h => h) B0.drew (fun hne => ?_)
                    have n0 := fun q : Meets (fun w' => Below w11.heap.size w11 w') => cell_below q.property (box_cells G11.out 3)
                    have n1 := fun q : Meets (fun w' => Below w11.heap.size w11 w') => cell_below q.property (x2)
                    have n2 := fun q : Meets (fun w' => Below w11.heap.size w11 w') => cell_below q.property (q5)
                    simp only [pick, pickN, List.filterMap_cons, List.filterMap_nil, List.getElem?_cons_zero, List.getElem?_cons_succ, Option.map_some]
                    repeat (change wpQuiet _ _ _ _ (_ :: _) _; go_big_quiet_step (fail))
                    refine wpQuiet_nil ?_
                    clear n0 n1 n2 hne
                    replace B0 := B0.drew
                    replace hb20 := hb20.drew
                    replace hrow0 := own_below hrow0 (Below.refl V0.heap.size V0).drew
                    obtain ⟨V1, hV1⟩ : ∃ V, V = V0.drew := ⟨_, rfl⟩
                    rw [← hV1] at B0 hb20 hrow0 ⊢
                    have HB0 := Lib.hid B0
                    have Hb20 := Lib.hid hb20
                    have Hrow0 := Lib.hid hrow0
                    have hs1 := B0.size
                    have hs2 := hb20.size
                    clear hV1 B0 hb20 hrow0 cy x2 q5 q1 q2 q3
                    refine wpSeqP_step (fun K hK => ?_)
                    go_simp
                    refine hK.out _ (V1.alloc (.cells #[.int .i64 (x.start + tv)] 3)) (fun _ => HB0.out.alloc HB0.out.size _) ?_
                    clear hK K
                    refine wpSeqP_step (fun K hK => ?_)
                    refine step_append_src _ rfl (.tmp 157) (.tmp 169) 29 rfl wo.heap.size 3 i0 _ 1 8 Tryz.underlying29 hi0 hz0 hz1 hz2 rfl (by omega) _ m _ rfl (Hrow0.out.alloc (.cells #[.int .i64 (x.start + tv)] 3)) (some ⟨V1.heap.size, 0, none⟩) 1 1 [.int .i64 (x.start + tv)] rfl (src_new V1 [.int .i64 (x.start + tv)] 3 1 1 rfl) (by simp [Value.oneCell']) (by unfold maxLen; omega) (by omega) (by simp; omega) ?_
                    intro A2 k2 v2 hown2 hg2 _
                    have hBo2 := below_grown (Hb20.out.alloc hs2 (.cells #[.int .i64 (x.start + tv)] 3)) hg2 (by simp; omega) (Hrow0.out.alloc _) (Nat.le_refl _)
                    have Ac2 := Lib.hid (Hbr.out.trans (hBo2.mono hsr))
                    have HownM := Lib.hid (own_below Hown.out hBo2)
                    have HroM := Lib.hid (Hro.out.below hBo2)
                    rw [← Hmin.out] at hown2
                    have hlen : (minRow t ts b).length = m + 1 := by rw [min_len, HMb.out]
                    have Hlen := Lib.hid hlen
                    have Hown2 := Lib.hid hown2
                    have hs3 := hBo2.size
                    refine hK.out _ _ (fun _ => Ac2.out) ?_
                    clear hK K hown2 hg2 hBo2 hlen
                    refine wpSeqP_step (fun K hK => ?_)
                    go_simp
                    refine hK.out _ (v2.alloc (.cells #[.slice A2 (m + 1) k2] 29)) (fun _ => Ac2.out.alloc Ac2.out.size _) ?_
                    clear hK K
                    refine wpSeqP_step (fun K hK => ?_)
                    refine step_append_src _ rfl (.tmp 156) (.tmp 171) 45 rfl w11.heap.size 29 i1 _ 1 24 Tryz.underlying45 hi1 hy0 hy1 hy2 rfl (by omega) _ k us rfl (HownM.out.alloc (.cells #[.slice A2 (m + 1) k2] 29)) (some ⟨v2.heap.size, 0, none⟩) 1 1 [.slice A2 (m + 1) k2] rfl (src_new v2 [.slice A2 (m + 1) k2] 29 1 1 rfl) (by simp [Value.oneCell']) (by unfold maxLen; omega) (by omega) (by simp; omega) ?_
                    intro A3 k3 v3 hown3 hg3 _
                    have Ac3 := Lib.hid (below_grown (Ac2.out.alloc Ac2.out.size (.cells #[.slice A2 (m + 1) k2] 29)) hg3 (by simp; omega) (HownM.out.alloc _) (Nat.le_refl _))
                    have Hown3 := Lib.hid hown3
                    have h1 : RowsOwn (v2.alloc (.cells #[.slice A2 (m + 1) k2] 29)) w11.heap.size us _ := HroM.out.below ((Below.refl _ _).alloc (Nat.le_refl _) _)
                    have h2 := own_mono Hown2.out hsr
                    have h3 := (h2.alloc (.cells #[.slice A2 (m + 1) k2] 29)).kept hg3 (own_apart h2 HownM.out (by decide))
                    have h4 := (h1.kept (HownM.out.alloc _) (by decide) hg3).snoc (u := .slice A2 (m + 1) k2) (l := minRow t ts b) (by rw [Hlen.out]; exact h3)
                    have H4 := Lib.hid h4
                    refine hK.out _ _ (fun _ => Ac3.out) ?_
                    clear hK K hown3 hg3 h1 h2 h3 h4
                    refine wpSeqP_step (fun K hK => ?_)
                    go_simp
                    refine hK.out _ _ (fun _ => Ac3.out) ?_
                    clear hK K
                    refine wpSeqP_nil ?_
                    refine NoPanic.normal ?_
                    go_wp2
                    go_roundw
                    case rel =>
                      refine ⟨k + 1, A3, k3, us ++ [.slice A2 (m + 1) k2], by omega, by go_num, rfl, Ac3.out, Hown3.out, ?_⟩
                      rw [List.take_add_one, Hb.out, Option.toList_some, List.map_append, List.map_singleton]
                      exact H4.out
                    case measure => simp [intOf]; omega
              · obtain rfl : k = c.length := by omega
                have hmn := rows_of_own Hown.out Hro.out
                rw [List.take_of_length_le (Nat.le_refl _)] at hmn
                have Hmn := Lib.hid hmn
                have hwo := hw11.trans (hbr.mono hw11.size)
                have Go := Lib.hid (box_stepR hbr G11.out)
                have Jo := Lib.hid (box_stepR hbr J11.out)
                have Ko := Lib.hid (box_stepR hbr K11.out)
                replace gc := box_cells Go.out
                replace gf := box_frozen Go.out
                replace jc := box_cells Jo.out
                replace jf := box_frozen Jo.out
                replace kc := box_cells Ko.out
                replace kf := box_frozen Ko.out
                have Htp := Lib.hid (Htrp.out.below hbr)
                have Hdy := Lib.hid (Hday.out.below hbr)
                have HPo := Lib.hid (HP.out.below hbr)
                clear hmn Hown Hro Hbr hsr HP Hday Htrp HQ Hcr
                obtain ⟨N, hN⟩ : ∃ N, t.trips.length = N := ⟨_, rfl⟩
                have HN := Lib.hid hN
                rw [hN] at h12
                go_upto_region 26 with (at_make; rw [hN]; refine wpList_make_full _ rfl _ _ 29 rfl wo.heap.size 3 i0 _ 1 Tryz.underlying29 hi0 hz0 hz1 _ _ _ _ N rfl rfl rfl rfl (by rw [hz2]; omega) (by simp [maxLen]; omega) (Nat.le_refl _) ?_; intro wm hownm hgm; have hbm : Below wo.heap.size wo wm := (Below.refl _ _).grown hgm (Nat.le_refl _) (by simp); have Hownm := Lib.hid hownm; clear hownm hgm)
                clear hN
                have hmade : (madeCells (Value.int .i64 0).cells (N * 1)).toList = (drvL N ((pl.take 0).flatten.map (tripOf c))).map (.int .i64) := by
                  rw [List.take_zero, List.flatten_nil, List.map_nil, drv_nil, Nat.mul_one, List.map_replicate]
                  exact toList_madeCells_one _ _
                have hbk := block_own Hownm.out
                rw [hmade] at hbk
                have Hbk := Lib.hid hbk
                obtain ⟨g, hg⟩ : ∃ g, wo.heap.size = g := ⟨_, rfl⟩
                have hgm : wo.heap.size < wm.heap.size := (Array.getElem?_eq_some_iff.1 hbk).1
                have hbm2 := hbm
                rw [hg] at Hbk hbm2 hgm ⊢
                have Hbm := Lib.hid hbm2
                have Hg := Lib.hid hg
                have Gm := Lib.hid (box_stepR hbm Go.out)
                have Jm := Lib.hid (box_stepR hbm Jo.out)
                have Km := Lib.hid (box_stepR hbm Ko.out)
                replace gc := box_cells Gm.out
                replace gf := box_frozen Gm.out
                replace jc := box_cells Jm.out
                replace jf := box_frozen Jm.out
                replace kc := box_cells Km.out
                replace kf := box_frozen Km.out
                clear hmade hbk hg hbm hbm2 Hownm
                go_wp2
                go_loopw [23] (fun s wr => ∃ i : Nat, i ≤ pl.length ∧ s = .int .i64 (i : Int) ∧ Below g wo wr ∧ wr.heap[g]? = some (.cells ((drvL N ((pl.take i).flatten.map (tripOf c))).map (.int .i64)).toArray 3 (0, 0))) (fun s wr => pl.length - (intOf s).toNat)
                case atStart => exact ⟨0, by omega, rfl, Hbm.out, Hbk.out⟩
                case round =>
                  obtain ⟨i, hi, rfl, hbr0, hsn⟩ := hrel
                  obtain ⟨wp, rfl⟩ : ∃ wp : World, wp = wr := ⟨_, rfl⟩
                  have Hbr := Lib.hid hbr0
                  have Hsn := Lib.hid hsn
                  have hgp : g < wp.heap.size := (Array.getElem?_eq_some_iff.1 hsn).1
                  have hbr : Below wo.heap.size wo wp := by rw [Hg.out]; exact hbr0
                  have hwp := hwo.trans (hbr.mono hwo.size)
                  clear hsn hbr0
                  have Gp := Lib.hid (box_stepR hbr Go.out)
                  replace gc := box_cells Gp.out
                  replace gf := box_frozen Gp.out
                  have Jp := Lib.hid (box_stepR hbr Jo.out)
                  replace jc := box_cells Jp.out
                  replace jf := box_frozen Jp.out
                  have Kp := Lib.hid (box_stepR hbr Ko.out)
                  replace kc := box_cells Kp.out
                  replace kf := box_frozen Kp.out
                  by_cases hlt : i < pl.length
                  · skip
                    obtain ⟨l, hl⟩ : ∃ l, pl[i]? = some l := ⟨_, List.getElem?_eq_getElem hlt⟩
                    have hlm := List.mem_of_getElem? hl
                    have hld := Hpl.out.duty l hlm
                    have hleg := Hpl.out.legal l hlm
                    obtain ⟨bP, oP, l1, u1, eA, hl1, hcl0, hnl0, _⟩ := HPo.out.at_ (k := i) (by rw [List.length_map]; exact hlt)
                    cases eA
                    obtain ⟨LA, lc, rfl, _, _⟩ := hnl0.form
                    have hle : l1 = natsI l := by rw [List.getElem?_map, hl] at hl1; simpa using hl1.symm
                    subst hle
                    obtain ⟨S, hS⟩ : ∃ n, l.length = n := ⟨_, rfl⟩
                    have hS12 : S ≤ 12 := by have := duty_len hld; omega
                    rw [natsI_len, hS] at hcl0 hnl0
                    have HS := Lib.hid hS
                    have Hld := Lib.hid hld
                    have Hl := Lib.hid hl
                    have Hcl := Lib.hid hcl0
                    have Hnl := Lib.hid hnl0
                    have Hdb : Hid (dutyB (segN d.blocks) (natsI l) = true) := Lib.hid (dutyB_iff.2 (dutyI_iff.2 ⟨by rw [natsOf_natsI], by rw [natsOf_natsI]; exact hld⟩))
                    have hNl : (natsI l).length ≤ 1000 := by rw [natsI_len, hS]; omega
                    obtain ⟨ps, hps⟩ : ∃ ps, piecesL d l = ps := ⟨_, rfl⟩
                    obtain ⟨tt, htt⟩ : ∃ tt, minL t ts c = tt := ⟨_, rfl⟩
                    have hmn : RowsAt wo (.slice A' c.length c') tt := by rw [← htt]; exact Hmn.out
                    have htr2 : truthB d.blocks tt = true := by rw [← htt]; exact Htru.out
                    have hli := legal_in Hd.out hld hleg htr2
                    rw [hps] at hli
                    obtain ⟨hDR, hSP⟩ := obeys_law hli
                    have HDo := Lib.hid (fun (u z v vt : Value) (W : World) (h1 : DayAt W u z d) (h2 : NumsAt .i64 W v (natsI l)) (h3 : RowsAt W vt tt) => (natsOf_natsI l ▸ Do_ok d u z v vt (natsI l) tt W h1 Hm.out h2 hNl h3 Hd.out Hdb.out htr2 : Calls Tryz.prog 26 #[.agg #[.int .i64 d.law.piece, .int .i64 d.law.drive, .int .i64 d.law.spread, .int .i64 d.law.brk, .int .i64 d.law.on, .int .i64 d.law.off, .int .i64 d.law.least, .int .i64 d.law.pieces, u, z], v, vt] W (GivesDo d (tabT tt) (piecesL d l) W)))
                    rw [hps] at HDo
                    have HSrc := Lib.hid (fun (V : World) (h : NumsAt .i64 V (.slice LA S lc) (natsI l)) => (by have e := src_of_nums h; rw [natsI_len, HS.out] at e; exact e : Src V LA S 1 ((natsI l).map (.int .i64))))
                    have hcl := cell_below hbr hcl0
                    have hnv := hnl0.below (hbr.trans ((Below.refl wp.heap.size wp).drew.mono hbr.size))
                    have hTv := hmn.below (hbr.trans ((Below.refl wp.heap.size wp).drew.mono hbr.size))
                    have hdv := Hdy.out.below (hbr.trans ((Below.refl wp.heap.size wp).drew.mono hbr.size))
                    have Hli := Lib.hid hli
                    have HDR := Lib.hid hDR
                    have HSP := Lib.hid hSP
                    clear hl hlm hld hleg hl1 hcl0 hnl0 hS hps htt hmn htr2 hli hDR hSP hNl
                    go_upto_region 29 with (fail)
                    go_cut [24, 25] from 183 to 194 (fun y e wx => ∃ (G : Nat) (bv : Value), y = .pointer (some ⟨G, 0, none⟩) ∧ e = .int .i64 0 ∧ Below wp.heap.size wp wx ∧ wx.heap[G]? = some (.cells #[.int .i64 (driveP (tabT tt) (tabT tt) ps), .int .i64 (spreadP d (tabT tt) (tabT tt) ps), bv, .bool (obeysB d (tabT tt) (tabT tt) ps)] 80 (0, 0)))
                    case first =>
                      refine wp_region_noPanic ?_
                      refine wp_region_pickA [0, 2, 3, 4, 5, 7] 9 (fun _ => true) (fun w' => Below wp.heap.size wp w') (by kernel_rfl) (by kernel_rfl) (fun _ _ _ _ _ h => h) (Below.refl _ _).drew (fun hne => ?_)
                      have n0 := fun q : Meets (fun w' => Below wp.heap.size wp w') => cell_below q.property (kc 0)
                      have n1 := fun q : Meets (fun w' => Below wp.heap.size wp w') => cell_below q.property (kc 1)
                      have n2 := fun q : Meets (fun w' => Below wp.heap.size wp w') => cell_below q.property (kc 2)
                      have n3 := fun q : Meets (fun w' => Below wp.heap.size wp w') => cell_below q.property (kc 3)
                      have n4 := fun q : Meets (fun w' => Below wp.heap.size wp w') => cell_below q.property (kc 4)
                      have n5 := fun q : Meets (fun w' => Below wp.heap.size wp w') => cell_below q.property (kc 5)
                      have n6 := fun q : Meets (fun w' => Below wp.heap.size wp w') => cell_below q.property (kc 6)
                      have n7 := fun q : Meets (fun w' => Below wp.heap.size wp w') => cell_below q.property (kc 7)
                      have n8 := fun q : Meets (fun w' => Below wp.heap.size wp w') => cell_below q.property (kc 8)
                      have n9 := fun q : Meets (fun w' => Below wp.heap.size wp w') => cell_below q.property (kc 9)
                      have n10 := fun q : Meets (fun w' => Below wp.heap.size wp w') => cell_below q.property hcl
                      simp only [pick, pickN, List.filterMap_cons, List.filterMap_nil, List.getElem?_cons_zero, List.getElem?_cons_succ, Option.map_some]
                      repeat (change wpQuiet _ _ _ _ (_ :: _) _; go_big_quiet_step (fail))
                      refine wpQuiet_nil ?_
                      clear n0 n1 n2 n3 n4 n5 n6 n7 n8 n9 n10 hne
                      have Acw := Lib.hid (Below.refl wp.heap.size wp).drew
                      obtain ⟨v0, hv0⟩ : ∃ V, V = wp.drew := ⟨_, rfl⟩
                      rw [← hv0] at hnv hTv hdv Acw ⊢
                      clear hv0
                      refine wpAnyF_two (i := 1) (j := 12) (by kernel_rfl) rfl rfl (fun K hK => ?_) (fun K hK => ?_)
                      · skip
                        go_simp
                        refine (DayC_any d _ _ _ hdv Hm.out).mono ?_
                        rintro e v1 ⟨dA, dB, dc, de, rfl, hdC, hb1⟩
                        replace hnv := hnv.below hb1
                        replace hTv := hTv.below hb1
                        replace hdv := hdv.below hb1
                        have Ac1 := Lib.hid (Acw.out.trans (hb1.mono Acw.out.size))
                        refine hK.out _ _ (fun _ => Ac1.out) ?_
                        clear hK K hb1
                        refine wpAnyF_two (i := 6) (j := 12) (by kernel_rfl) rfl rfl (fun K hK => ?_) (fun K hK => ?_)
                        · skip
                          refine step_append_src _ rfl (.const (.slice none 0 0)) (.tmp 189) 29 rfl wp.heap.size 3 i0 _ 1 8 Tryz.underlying29 hi0 hz0 hz1 hz2 rfl (by omega) _ 0 [] rfl (World.ownsRow_nil _ _ _ _) LA S lc ((natsI l).map (.int .i64)) rfl (HSrc.out _ hnv) (ints_one _) (by unfold maxLen; omega) (by omega) Ac1.out.size ?_
                          intro lA lc2 v2 hlo hg2 _
                          rw [Nat.zero_add, List.nil_append] at hlo
                          have hb2 : Below v1.heap.size v1 v2 := (Below.refl _ _).grown hg2 (Nat.le_refl _) (fun q hq => (by cases hq))
                          have hlN := nums_of_own (K := .i64) hlo
                          replace hnv := hnv.below hb2
                          replace hTv := hTv.below hb2
                          replace hdv := hdv.below hb2
                          replace hdC := hdC.below hb2
                          have Ac2 := Lib.hid (Ac1.out.trans (hb2.mono Ac1.out.size))
                          refine hK.out _ _ (fun _ => Ac2.out) ?_
                          clear hK K hb2 hlo hg2
                          rw [Nat.zero_add]
                          refine wpAnyF_two (i := 8) (j := 12) (by kernel_rfl) rfl rfl (fun K hK => ?_) (fun K hK => ?_)
                          · skip
                            go_simp
                            refine (HDo.out _ _ _ _ _ hdC hlN hTv).mono ?_
                            rintro e v3 ⟨bA, bc, rfl, _, hb3⟩
                            replace hnv := hnv.below hb3
                            replace hTv := hTv.below hb3
                            replace hdv := hdv.below hb3
                            replace hdC := hdC.below hb3
                            replace hlN := hlN.below hb3
                            have Ac3 := Lib.hid (Ac2.out.trans (hb3.mono Ac2.out.size))
                            refine hK.out _ _ (fun _ => Ac3.out) ?_
                            clear hK K hb3
                            refine wpAnyF_pick (by kernel_rfl) (fun _ _ _ _ _ h => h) 3 [9, 10, 11] _ _ _ (by kernel_rfl) Ac3.out ?_
                            have hne2 : Nonempty (Meets (fun w' => Below wp.heap.size wp w')) := ⟨⟨_, Ac3.out⟩⟩
                            simp only [pick, List.filterMap_cons, List.filterMap_nil, List.getElem?_cons_zero, List.getElem?_cons_succ]
                            repeat (change wpQuiet _ _ _ _ (_ :: _) _; go_big_quiet_step (fail))
                            refine wpQuiet_nil ?_
                            clear hne2
                            refine wpAnyF_one (i := 12) (by kernel_rfl) rfl (fun K hK => ?_)
                            go_simp
                            have Ac4 := Lib.hid (Ac3.out.alloc Ac3.out.size (.cells #[.int .i64 0, .int .i64 0, .slice none 0 0, .bool false] 80))
                            have hal4 := (Below.refl v3.heap.size v3).alloc (Nat.le_refl _) (.cells #[.int .i64 0, .int .i64 0, .slice none 0 0, .bool false] 80)
                            replace hnv := hnv.below hal4
                            replace hTv := hTv.below hal4
                            replace hdv := hdv.below hal4
                            replace hdC := hdC.below hal4
                            replace hlN := hlN.below hal4
                            have hG : (v3.alloc (.cells #[.int .i64 0, .int .i64 0, .slice none 0 0, .bool false] 80)).heap[v3.heap.size]? = some (.cells #[.int .i64 0, .int .i64 0, .slice none 0 0, .bool false] 80 (0, 0)) := heap_alloc_new _ _
                            have hGl : wp.heap.size ≤ v3.heap.size := Ac3.out.size
                            refine hK.out _ _ (fun _ => Ac4.out) ?_
                            clear hK K hal4
                            obtain ⟨v4, hv4⟩ : ∃ V, V = v3.alloc (.cells #[.int .i64 0, .int .i64 0, .slice none 0 0, .bool false] 80) := ⟨_, rfl⟩
                            obtain ⟨G, hGe⟩ : ∃ G, G = v3.heap.size := ⟨_, rfl⟩
                            rw [← hv4] at Ac4 hG hnv hTv hdv hdC hlN ⊢
                            rw [← hGe] at hG hGl ⊢
                            clear hv4 hGe
                            refine wpAnyF_one (i := 13) (by kernel_rfl) rfl (fun K hK => ?_)
                            have q1 := box_cells hG
                            have q2 := box_frozen hG
                            go_simp
                            have hBs := ((((Ac4.out.setCell (p := ⟨G, 0, none⟩) hGl (.int .i64 (driveP (tabT tt) (tabT tt) ps))).setCell (p := ⟨G, 1, none⟩) hGl (.int .i64 (spreadP d (tabT tt) (tabT tt) ps))).setCell (p := ⟨G, 2, none⟩) hGl (.slice bA (ps.length - 1) bc)).setCell (p := ⟨G, 3, none⟩) hGl (.bool (obeysB d (tabT tt) (tabT tt) ps)))
                            have hG2 := blk_set (blk_set (blk_set (blk_set hG (o := 0) (.int .i64 (driveP (tabT tt) (tabT tt) ps))) (o := 1) (.int .i64 (spreadP d (tabT tt) (tabT tt) ps))) (o := 2) (.slice bA (ps.length - 1) bc)) (o := 3) (.bool (obeysB d (tabT tt) (tabT tt) ps))
                            refine hK.out _ _ (fun _ => hBs) ?_
                            clear hK K q1 q2
                            simp only [List.setIfInBounds_toArray, List.set_cons_succ, List.set_cons_zero] at hG2
                            refine wpAnyF_one (i := 14) (by kernel_rfl) rfl (fun K hK => ?_)
                            go_simp
                            refine hK.out _ _ (fun _ => hBs) ?_
                            clear hK K
                            refine wpAnyF_done (by kernel_rfl) ?_ _
                            refine NoPanic.normal ?_
                            go_wp2_with fail
                            go_meet
                            case rel => exact ⟨G, _, rfl, rfl, hBs, hG2⟩
                          · skip
                            go_simp
                            have Ac4 := Lib.hid (Ac2.out.alloc Ac2.out.size (.cells #[.int .i64 0, .int .i64 0, .slice none 0 0, .bool false] 80))
                            have hal4 := (Below.refl v2.heap.size v2).alloc (Nat.le_refl _) (.cells #[.int .i64 0, .int .i64 0, .slice none 0 0, .bool false] 80)
                            replace hnv := hnv.below hal4
                            replace hTv := hTv.below hal4
                            replace hdv := hdv.below hal4
                            replace hdC := hdC.below hal4
                            replace hlN := hlN.below hal4
                            have hG : (v2.alloc (.cells #[.int .i64 0, .int .i64 0, .slice none 0 0, .bool false] 80)).heap[v2.heap.size]? = some (.cells #[.int .i64 0, .int .i64 0, .slice none 0 0, .bool false] 80 (0, 0)) := heap_alloc_new _ _
                            have hGl : wp.heap.size ≤ v2.heap.size := Ac2.out.size
                            refine hK.out _ _ (fun _ => Ac4.out) ?_
                            clear hK K hal4
                            obtain ⟨v4, hv4⟩ : ∃ V, V = v2.alloc (.cells #[.int .i64 0, .int .i64 0, .slice none 0 0, .bool false] 80) := ⟨_, rfl⟩
                            obtain ⟨G, hGe⟩ : ∃ G, G = v2.heap.size := ⟨_, rfl⟩
                            rw [← hv4] at Ac4 hG hnv hTv hdv hdC hlN ⊢
                            rw [← hGe] at hG hGl ⊢
                            clear hv4 hGe
                            refine wpAnyF_one (i := 8) (by kernel_rfl) rfl (fun K hK => ?_)
                            go_simp
                            refine (HDo.out _ _ _ _ _ hdC hlN hTv).mono ?_
                            rintro e v5 ⟨bA, bc, rfl, _, hb5⟩
                            replace hnv := hnv.below hb5
                            replace hTv := hTv.below hb5
                            replace hdv := hdv.below hb5
                            replace hdC := hdC.below hb5
                            replace hlN := hlN.below hb5
                            replace hG := (hb5.block _ (Array.getElem?_eq_some_iff.1 hG).1).trans hG
                            have Ac5 := Lib.hid (Ac4.out.trans (hb5.mono Ac4.out.size))
                            refine hK.out _ _ (fun _ => Ac5.out) ?_
                            clear hK K hb5
                            refine wpAnyF_pick (by kernel_rfl) (fun _ _ _ _ _ h => h) 2 [9, 10, 11] _ _ _ (by kernel_rfl) Ac5.out ?_
                            have hne2 : Nonempty (Meets (fun w' => Below wp.heap.size wp w')) := ⟨⟨_, Ac5.out⟩⟩
                            simp only [pick, List.filterMap_cons, List.filterMap_nil, List.getElem?_cons_zero, List.getElem?_cons_succ]
                            repeat (change wpQuiet _ _ _ _ (_ :: _) _; go_big_quiet_step (fail))
                            refine wpQuiet_nil ?_
                            clear hne2
                            refine wpAnyF_one (i := 13) (by kernel_rfl) rfl (fun K hK => ?_)
                            have q1 := box_cells hG
                            have q2 := box_frozen hG
                            go_simp
                            have hBs := ((((Ac5.out.setCell (p := ⟨G, 0, none⟩) hGl (.int .i64 (driveP (tabT tt) (tabT tt) ps))).setCell (p := ⟨G, 1, none⟩) hGl (.int .i64 (spreadP d (tabT tt) (tabT tt) ps))).setCell (p := ⟨G, 2, none⟩) hGl (.slice bA (ps.length - 1) bc)).setCell (p := ⟨G, 3, none⟩) hGl (.bool (obeysB d (tabT tt) (tabT tt) ps)))
                            have hG2 := blk_set (blk_set (blk_set (blk_set hG (o := 0) (.int .i64 (driveP (tabT tt) (tabT tt) ps))) (o := 1) (.int .i64 (spreadP d (tabT tt) (tabT tt) ps))) (o := 2) (.slice bA (ps.length - 1) bc)) (o := 3) (.bool (obeysB d (tabT tt) (tabT tt) ps))
                            refine hK.out _ _ (fun _ => hBs) ?_
                            clear hK K q1 q2
                            simp only [List.setIfInBounds_toArray, List.set_cons_succ, List.set_cons_zero] at hG2
                            refine wpAnyF_one (i := 14) (by kernel_rfl) rfl (fun K hK => ?_)
                            go_simp
                            refine hK.out _ _ (fun _ => hBs) ?_
                            clear hK K
                            refine wpAnyF_done (by kernel_rfl) ?_ _
                            refine NoPanic.normal ?_
                            go_wp2_with fail
                            go_meet
                            case rel => exact ⟨G, _, rfl, rfl, hBs, hG2⟩
                        · skip
                          go_simp
                          have Ac6 := Lib.hid (Ac1.out.alloc Ac1.out.size (.cells #[.int .i64 0, .int .i64 0, .slice none 0 0, .bool false] 80))
                          have hal6 := (Below.refl v1.heap.size v1).alloc (Nat.le_refl _) (.cells #[.int .i64 0, .int .i64 0, .slice none 0 0, .bool false] 80)
                          replace hnv := hnv.below hal6
                          replace hTv := hTv.below hal6
                          replace hdv := hdv.below hal6
                          replace hdC := hdC.below hal6
                          have hG : (v1.alloc (.cells #[.int .i64 0, .int .i64 0, .slice none 0 0, .bool false] 80)).heap[v1.heap.size]? = some (.cells #[.int .i64 0, .int .i64 0, .slice none 0 0, .bool false] 80 (0, 0)) := heap_alloc_new _ _
                          have hGl : wp.heap.size ≤ v1.heap.size := Ac1.out.size
                          refine hK.out _ _ (fun _ => Ac6.out) ?_
                          clear hK K hal6
                          obtain ⟨v6, hv6⟩ : ∃ V, V = v1.alloc (.cells #[.int .i64 0, .int .i64 0, .slice none 0 0, .bool false] 80) := ⟨_, rfl⟩
                          obtain ⟨G, hGe⟩ : ∃ G, G = v1.heap.size := ⟨_, rfl⟩
                          rw [← hv6] at Ac6 hG hnv hTv hdv hdC ⊢
                          rw [← hGe] at hG hGl ⊢
                          clear hv6 hGe
                          refine wpAnyF_one (i := 6) (by kernel_rfl) rfl (fun K hK => ?_)
                          refine step_append_src _ rfl (.const (.slice none 0 0)) (.tmp 189) 29 rfl wp.heap.size 3 i0 _ 1 8 Tryz.underlying29 hi0 hz0 hz1 hz2 rfl (by omega) _ 0 [] rfl (World.ownsRow_nil _ _ _ _) LA S lc ((natsI l).map (.int .i64)) rfl (HSrc.out _ hnv) (ints_one _) (by unfold maxLen; omega) (by omega) Ac6.out.size ?_
                          intro lA lc7 v7 hlo hg7 _
                          rw [Nat.zero_add, List.nil_append] at hlo
                          have hb7 : Below v6.heap.size v6 v7 := (Below.refl _ _).grown hg7 (Nat.le_refl _) (fun q hq => (by cases hq))
                          have hlN := nums_of_own (K := .i64) hlo
                          replace hnv := hnv.below hb7
                          replace hTv := hTv.below hb7
                          replace hdv := hdv.below hb7
                          replace hdC := hdC.below hb7
                          replace hG := (hb7.block _ (Array.getElem?_eq_some_iff.1 hG).1).trans hG
                          have Ac7 := Lib.hid (Ac6.out.trans (hb7.mono Ac6.out.size))
                          refine hK.out _ _ (fun _ => Ac7.out) ?_
                          clear hK K hb7 hlo hg7
                          rw [Nat.zero_add]
                          refine wpAnyF_one (i := 8) (by kernel_rfl) rfl (fun K hK => ?_)
                          go_simp
                          refine (HDo.out _ _ _ _ _ hdC hlN hTv).mono ?_
                          rintro e v8 ⟨bA, bc, rfl, _, hb8⟩
                          replace hnv := hnv.below hb8
                          replace hTv := hTv.below hb8
                          replace hdv := hdv.below hb8
                          replace hdC := hdC.below hb8
                          replace hlN := hlN.below hb8
                          replace hG := (hb8.block _ (Array.getElem?_eq_some_iff.1 hG).1).trans hG
                          have Ac8 := Lib.hid (Ac7.out.trans (hb8.mono Ac7.out.size))
                          refine hK.out _ _ (fun _ => Ac8.out) ?_
                          clear hK K hb8
                          refine wpAnyF_pick (by kernel_rfl) (fun _ _ _ _ _ h => h) 2 [9, 10, 11] _ _ _ (by kernel_rfl) Ac8.out ?_
                          have hne2 : Nonempty (Meets (fun w' => Below wp.heap.size wp w')) := ⟨⟨_, Ac8.out⟩⟩
                          simp only [pick, List.filterMap_cons, List.filterMap_nil, List.getElem?_cons_zero, List.getElem?_cons_succ]
                          repeat (change wpQuiet _ _ _ _ (_ :: _) _; go_big_quiet_step (fail))
                          refine wpQuiet_nil ?_
                          clear hne2
                          refine wpAnyF_one (i := 13) (by kernel_rfl) rfl (fun K hK => ?_)
                          have q1 := box_cells hG
                          have q2 := box_frozen hG
                          go_simp
                          have hBs := ((((Ac8.out.setCell (p := ⟨G, 0, none⟩) hGl (.int .i64 (driveP (tabT tt) (tabT tt) ps))).setCell (p := ⟨G, 1, none⟩) hGl (.int .i64 (spreadP d (tabT tt) (tabT tt) ps))).setCell (p := ⟨G, 2, none⟩) hGl (.slice bA (ps.length - 1) bc)).setCell (p := ⟨G, 3, none⟩) hGl (.bool (obeysB d (tabT tt) (tabT tt) ps)))
                          have hG2 := blk_set (blk_set (blk_set (blk_set hG (o := 0) (.int .i64 (driveP (tabT tt) (tabT tt) ps))) (o := 1) (.int .i64 (spreadP d (tabT tt) (tabT tt) ps))) (o := 2) (.slice bA (ps.length - 1) bc)) (o := 3) (.bool (obeysB d (tabT tt) (tabT tt) ps))
                          refine hK.out _ _ (fun _ => hBs) ?_
                          clear hK K q1 q2
                          simp only [List.setIfInBounds_toArray, List.set_cons_succ, List.set_cons_zero] at hG2
                          refine wpAnyF_one (i := 14) (by kernel_rfl) rfl (fun K hK => ?_)
                          go_simp
                          refine hK.out _ _ (fun _ => hBs) ?_
                          clear hK K
                          refine wpAnyF_done (by kernel_rfl) ?_ _
                          refine NoPanic.normal ?_
                          go_wp2_with fail
                          go_meet
                          case rel => exact ⟨G, _, rfl, rfl, hBs, hG2⟩
                      · skip
                        go_simp
                        have Ac9 := Lib.hid (Acw.out.alloc Acw.out.size (.cells #[.int .i64 0, .int .i64 0, .slice none 0 0, .bool false] 80))
                        have hal9 := (Below.refl v0.heap.size v0).alloc (Nat.le_refl _) (.cells #[.int .i64 0, .int .i64 0, .slice none 0 0, .bool false] 80)
                        replace hnv := hnv.below hal9
                        replace hTv := hTv.below hal9
                        replace hdv := hdv.below hal9
                        have hG : (v0.alloc (.cells #[.int .i64 0, .int .i64 0, .slice none 0 0, .bool false] 80)).heap[v0.heap.size]? = some (.cells #[.int .i64 0, .int .i64 0, .slice none 0 0, .bool false] 80 (0, 0)) := heap_alloc_new _ _
                        have hGl : wp.heap.size ≤ v0.heap.size := Acw.out.size
                        refine hK.out _ _ (fun _ => Ac9.out) ?_
                        clear hK K hal9
                        obtain ⟨v9, hv9⟩ : ∃ V, V = v0.alloc (.cells #[.int .i64 0, .int .i64 0, .slice none 0 0, .bool false] 80) := ⟨_, rfl⟩
                        obtain ⟨G, hGe⟩ : ∃ G, G = v0.heap.size := ⟨_, rfl⟩
                        rw [← hv9] at Ac9 hG hnv hTv hdv ⊢
                        rw [← hGe] at hG hGl ⊢
                        clear hv9 hGe
                        refine wpAnyF_one (i := 1) (by kernel_rfl) rfl (fun K hK => ?_)
                        go_simp
                        refine (DayC_any d _ _ _ hdv Hm.out).mono ?_
                        rintro e v10 ⟨dA, dB, dc, de, rfl, hdC, hb10⟩
                        replace hnv := hnv.below hb10
                        replace hTv := hTv.below hb10
                        replace hdv := hdv.below hb10
                        replace hG := (hb10.block _ (Array.getElem?_eq_some_iff.1 hG).1).trans hG
                        have Ac10 := Lib.hid (Ac9.out.trans (hb10.mono Ac9.out.size))
                        refine hK.out _ _ (fun _ => Ac10.out) ?_
                        clear hK K hb10
                        refine wpAnyF_one (i := 6) (by kernel_rfl) rfl (fun K hK => ?_)
                        refine step_append_src _ rfl (.const (.slice none 0 0)) (.tmp 189) 29 rfl wp.heap.size 3 i0 _ 1 8 Tryz.underlying29 hi0 hz0 hz1 hz2 rfl (by omega) _ 0 [] rfl (World.ownsRow_nil _ _ _ _) LA S lc ((natsI l).map (.int .i64)) rfl (HSrc.out _ hnv) (ints_one _) (by unfold maxLen; omega) (by omega) Ac10.out.size ?_
                        intro lA lc11 v11 hlo hg11 _
                        rw [Nat.zero_add, List.nil_append] at hlo
                        have hb11 : Below v10.heap.size v10 v11 := (Below.refl _ _).grown hg11 (Nat.le_refl _) (fun q hq => (by cases hq))
                        have hlN := nums_of_own (K := .i64) hlo
                        replace hnv := hnv.below hb11
                        replace hTv := hTv.below hb11
                        replace hdv := hdv.below hb11
                        replace hdC := hdC.below hb11
                        replace hG := (hb11.block _ (Array.getElem?_eq_some_iff.1 hG).1).trans hG
                        have Ac11 := Lib.hid (Ac10.out.trans (hb11.mono Ac10.out.size))
                        refine hK.out _ _ (fun _ => Ac11.out) ?_
                        clear hK K hb11 hlo hg11
                        rw [Nat.zero_add]
                        refine wpAnyF_one (i := 8) (by kernel_rfl) rfl (fun K hK => ?_)
                        go_simp
                        refine (HDo.out _ _ _ _ _ hdC hlN hTv).mono ?_
                        rintro e v12 ⟨bA, bc, rfl, _, hb12⟩
                        replace hnv := hnv.below hb12
                        replace hTv := hTv.below hb12
                        replace hdv := hdv.below hb12
                        replace hdC := hdC.below hb12
                        replace hlN := hlN.below hb12
                        replace hG := (hb12.block _ (Array.getElem?_eq_some_iff.1 hG).1).trans hG
                        have Ac12 := Lib.hid (Ac11.out.trans (hb12.mono Ac11.out.size))
                        refine hK.out _ _ (fun _ => Ac12.out) ?_
                        clear hK K hb12
                        refine wpAnyF_pick (by kernel_rfl) (fun _ _ _ _ _ h => h) 2 [9, 10, 11] _ _ _ (by kernel_rfl) Ac12.out ?_
                        have hne2 : Nonempty (Meets (fun w' => Below wp.heap.size wp w')) := ⟨⟨_, Ac12.out⟩⟩
                        simp only [pick, List.filterMap_cons, List.filterMap_nil, List.getElem?_cons_zero, List.getElem?_cons_succ]
                        repeat (change wpQuiet _ _ _ _ (_ :: _) _; go_big_quiet_step (fail))
                        refine wpQuiet_nil ?_
                        clear hne2
                        refine wpAnyF_one (i := 13) (by kernel_rfl) rfl (fun K hK => ?_)
                        have q1 := box_cells hG
                        have q2 := box_frozen hG
                        go_simp
                        have hBs := ((((Ac12.out.setCell (p := ⟨G, 0, none⟩) hGl (.int .i64 (driveP (tabT tt) (tabT tt) ps))).setCell (p := ⟨G, 1, none⟩) hGl (.int .i64 (spreadP d (tabT tt) (tabT tt) ps))).setCell (p := ⟨G, 2, none⟩) hGl (.slice bA (ps.length - 1) bc)).setCell (p := ⟨G, 3, none⟩) hGl (.bool (obeysB d (tabT tt) (tabT tt) ps)))
                        have hG2 := blk_set (blk_set (blk_set (blk_set hG (o := 0) (.int .i64 (driveP (tabT tt) (tabT tt) ps))) (o := 1) (.int .i64 (spreadP d (tabT tt) (tabT tt) ps))) (o := 2) (.slice bA (ps.length - 1) bc)) (o := 3) (.bool (obeysB d (tabT tt) (tabT tt) ps))
                        refine hK.out _ _ (fun _ => hBs) ?_
                        clear hK K q1 q2
                        simp only [List.setIfInBounds_toArray, List.set_cons_succ, List.set_cons_zero] at hG2
                        refine wpAnyF_one (i := 14) (by kernel_rfl) rfl (fun K hK => ?_)
                        go_simp
                        refine hK.out _ _ (fun _ => hBs) ?_
                        clear hK K
                        refine wpAnyF_done (by kernel_rfl) ?_ _
                        refine NoPanic.normal ?_
                        go_wp2_with fail
                        go_meet
                        case rel => exact ⟨G, _, rfl, rfl, hBs, hG2⟩
                    case rest =>
                      obtain ⟨GX, bv, rfl, rfl, hbx, hG⟩ := hcut
                      rename World => wx
                      rw [Hli.out] at hG
                      have hDR := HDR.out
                      have hSP := HSP.out
                      obtain ⟨DR, hDRe⟩ : ∃ b, driveP (tabT tt) (tabT tt) ps = b := ⟨_, rfl⟩
                      obtain ⟨SP, hSPe⟩ : ∃ b, spreadP d (tabT tt) (tabT tt) ps = b := ⟨_, rfl⟩
                      rw [hDRe] at hG hDR
                      rw [hSPe] at hG hSP
                      clear hDRe hSPe HDo Hli HDR HSP HSrc hnv hTv hdv hcl
                      have p1 : ¬ d.law.drive < DR := by omega
                      have p2 : ¬ d.law.spread < SP := by omega
                      have hbx2 := hbx
                      have hbX : Below wo.heap.size wo wx := hbr.trans (hbx.mono hbr.size)
                      have Hsx := Lib.hid (box_stepR hbx Hsn.out)
                      have Hbx := Lib.hid (Hbr.out.trans (hbx.mono (Nat.le_of_lt hgp)))
                      clear hbx hbx2
                      have Gx := Lib.hid (box_stepR hbX Go.out)
                      replace gc := box_cells Gx.out
                      replace gf := box_frozen Gx.out
                      have Jx := Lib.hid (box_stepR hbX Jo.out)
                      replace jc := box_cells Jx.out
                      replace jf := box_frozen Jx.out
                      have Kx := Lib.hid (box_stepR hbX Ko.out)
                      replace kc := box_cells Kx.out
                      replace kf := box_frozen Kx.out
                      have q := box_cells hG
                      have q0 := box_frozen hG
                      have hgx : g < wx.heap.size := (Array.getElem?_eq_some_iff.1 Hsx.out).1
                      clear hbX hSP hDR
                      go_wp2
                      clear q q0 hG p1 p2
                      go_loopw [26] (fun s wr => ∃ k : Nat, k ≤ S ∧ s = .int .i64 (k : Int) ∧ Below g wo wr ∧ wr.heap[g]? = some (.cells ((drvL N (((pl.take i).flatten ++ l.take k).map (tripOf c))).map (.int .i64)).toArray 3 (0, 0))) (fun s wr => S - (intOf s).toNat)
                      case atStart => exact ⟨0, by omega, rfl, Hbx.out, by rw [List.take_zero, List.append_nil]; exact Hsx.out⟩
                      case round =>
                        obtain ⟨k, hk, rfl, hbk0, hsk⟩ := hrel
                        obtain ⟨wy, rfl⟩ : ∃ wy : World, wy = wr := ⟨_, rfl⟩
                        have hbk : Below wo.heap.size wo wy := by rw [Hg.out]; exact hbk0
                        have Hbk := Lib.hid hbk0
                        have Hsk := Lib.hid hsk
                        have hcl := cell_below hbk Hcl.out
                        clear hbk0 hsk
                        by_cases hkS : k < S
                        · skip
                          obtain ⟨b5, o5, y5, e5, hy5, cy5, _⟩ := (Hnl.out.below hbk).at_ (k := k) (by rw [natsI_len, HS.out]; exact hkS)
                          cases e5
                          obtain ⟨sg, rfl, hsg⟩ := natsI_get hy5
                          have hsgF : sg < FL := by rw [← Hsg.out]; exact Hld.out.lt sg (List.mem_of_getElem? hsg)
                          obtain ⟨b6, o6, y6, e6, hy6, cy6, _⟩ := (Htp.out.below hbk).at_ (k := sg) (by rw [natsI_len, HFL.out]; exact hsgF)
                          cases e6
                          obtain ⟨x, rfl, hx⟩ := natsI_get hy6
                          have hxN : x < N := by rw [← HN.out]; exact Hcc.out.lt x (List.mem_of_getElem? hx)
                          have hxt : tripOf c sg = x := by unfold tripOf; rw [hx]; rfl
                          have hcnt := drv_bound Hpl.out (by rw [Hsg.out, HFL.out]) Hcc.out Hl.out (k := k) (x := x) (by rw [HN.out]; exact hxN)
                          obtain ⟨cn, hcn⟩ : ∃ n, (((pl.take i).flatten ++ l.take k).map (tripOf c)).count x = n := ⟨_, rfl⟩
                          rw [hcn] at hcnt
                          have gg := box_cells Hsk.out x
                          rw [List.getElem?_toArray, List.getElem?_map, drv_get _ hxN, hcn, Option.map_some] at gg
                          have gg2 := box_frozen Hsk.out x
                          have qw : IntKind.i64.wrap ((cn : Int) + 1) = (cn : Int) + 1 := IntWalk.i64_in _ (by omega)
                          have hst := drv_set (((pl.take i).flatten ++ l.take k).map (tripOf c)) hxN
                          rw [hcn] at hst
                          have hend : ((pl.take i).flatten ++ l.take k).map (tripOf c) ++ [x] = ((pl.take i).flatten ++ l.take (k + 1)).map (tripOf c) := by
                            rw [List.take_add_one, hsg, ← hxt]
                            simp
                          rw [hend] at hst
                          have Hst := Lib.hid hst
                          have sI : (sg : Int) < (FL : Int) := by omega
                          have xI : (x : Int) < (N : Int) := by omega
                          clear hy5 hsg hy6 hx hxt hcn hst hend
                          go_wp2
                          go_roundw
                          case rel =>
                            refine ⟨k + 1, by omega, by go_num, Hbk.out.setCell (p := ⟨g, x, none⟩) (Nat.le_refl _) _, ?_⟩
                            have := blk_set Hsk.out (o := x) (.int .i64 ((cn : Int) + 1))
                            rw [← Hst.out, List.map_set]
                            simpa using this
                          case measure => simp [intOf]; omega
                        · obtain rfl : k = S := by omega
                          have hend : ((pl.take i).flatten ++ l.take k).map (tripOf c) = (pl.take (i + 1)).flatten.map (tripOf c) := by
                            rw [take_flat Hl.out, show l.take k = l from List.take_of_length_le (by rw [HS.out]; exact Nat.le_refl _)]
                          have hsk := Hsk.out
                          rw [hend] at hsk
                          have Hse := Lib.hid hsk
                          clear hend hsk
                          go_wp2
                          go_roundw
                          case rel => exact ⟨i + 1, by omega, by go_num, Hbk.out, Hse.out⟩
                          case measure => simp [intOf]; omega
                  · skip
                    obtain rfl : i = pl.length := by omega
                    have hone : ∀ x, x < N → ((drvL N ((pl.take pl.length).flatten.map (tripOf c))).map (Value.int .i64)).toArray[x]? = some (.int .i64 1) := fun x hx => by
                      have h := plan_once Hpl.out (by rw [Hsg.out, HFL.out]) Hcc.out (x := x) (by rw [HN.out]; exact hx)
                      rw [List.getElem?_toArray, List.getElem?_map, drv_get _ hx, List.take_length, h]
                      rfl
                    have Hone := Lib.hid hone
                    have Dc := Lib.hid (box_cells Hsn.out)
                    clear hone
                    go_wp2
                    go_loop [28] (fun s => ∃ k : Nat, k ≤ N ∧ s = .int .i64 (k : Int)) (fun s => N - (intOf s).toNat)
                    case atStart => exact ⟨0, by omega, rfl⟩
                    case round =>
                      obtain ⟨k, hk, rfl⟩ := hrel
                      by_cases hkN : k < N
                      · have dk := (Dc.out k).trans (Hone.out k hkN)
                        go_wp2
                        go_round
                        case rel => exact ⟨k + 1, by omega, by go_num⟩
                        case measure => simp [intOf]; omega
                      · obtain rfl : k = N := by omega
                        go_wp2_with fail
                        refine (cuts_any _).mono ?_
                        rintro e wz ⟨rfl, hbz⟩
                        have hwz := hwp.trans (hbz.mono hwp.size)
                        go_wp2
                        go_ret
                        exact ⟨rfl, hwz⟩
        · skip
          have hzb : (F != 0) = true := by simpa using hz
          go_wp2_with fail
          refine (cuts_any _).mono ?_
          rintro e w9 ⟨rfl, hb9⟩
          have hw9 := hw8.trans (hb9.mono hw8.size)
          have G9 := Lib.hid (box_stepR hb9 G8.out)
          replace gc := box_cells G9.out
          replace gf := box_frozen G9.out
          have J9 := Lib.hid (box_stepR hb9 J8.out)
          replace jc := box_cells J9.out
          replace jf := box_frozen J9.out
          have K9 := Lib.hid (box_stepR hb9 K8.out)
          replace kc := box_cells K9.out
          replace kf := box_frozen K9.out
          replace hcr := hcr.below hb9
          replace htrp := htrp.below hb9
          replace hday := hday.below hb9
          go_wp2
          go_ret
          exact ⟨rfl, hw9⟩
    · skip
      have hzb : (nF != 0) = true := by simpa using hz
      go_wp2_with fail
      refine (cuts_any _).mono ?_
      rintro e w3 ⟨rfl, hb3⟩
      have hw3 := hw2.trans (hb3.mono hw2.size)
      have G3 := Lib.hid (box_stepR hb3 G2.out)
      replace gc := box_cells G3.out
      replace gf := box_frozen G3.out
      have J3 := Lib.hid (box_stepR hb3 J2.out)
      replace jc := box_cells J3.out
      replace jf := box_frozen J3.out
      go_wp2
      go_ret
      exact ⟨rfl, hw3⟩
end Go.Proofs.YtckgapeednokjaaGreat
