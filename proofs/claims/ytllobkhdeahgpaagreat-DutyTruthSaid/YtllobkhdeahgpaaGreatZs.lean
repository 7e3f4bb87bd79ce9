import Derived.Test.YtllobkhdeahgpaaGreatZr
set_option linter.unusedVariables false
set_option linter.unusedSimpArgs false
namespace Go.Proofs.YtllobkhdeahgpaaGreat
open Go Go.Proofs Go.RowKit

/-! ### DutyTruth -/
set_option maxRecDepth 100000 in
set_option maxHeartbeats 800000 in
theorem Truth_dark_a (d : DDay) (u z v : Value) (ws : List Int) (x : Nat) (w : World) (hda : DayAt w u z d) (hv : NumsAt .u16 w v ws) (hw : ∀ y ∈ ws, 0 ≤ y ∧ y ≤ 65535) (hx : x < 65536) (hr : lightB d = false) :
    Calls Tryz.prog 8 #[.agg #[.int .i64 d.law.piece, .int .i64 d.law.drive, .int .i64 d.law.spread, .int .i64 d.law.brk, .int .i64 d.law.on, .int .i64 d.law.off, .int .i64 d.law.least, .int .i64 d.law.pieces, u, z], .int .u16 (x : Int), v] w (Gives w (.bool true)) := by
  obtain ⟨AW, cW, rfl, _, _⟩ := hv.form
  have Hv := Lib.hid hv
  clear hv
  have Hr := Lib.hid hr
  clear hr
  obtain ⟨A1, c1, rfl, _, _⟩ := hda.blocks.form
  obtain ⟨A2, c2, rfl, _, _⟩ := hda.walk.form
  have hw0 : Below w.heap.size w (w.alloc (.cells #[.int .i64 d.law.piece, .int .i64 d.law.drive, .int .i64 d.law.spread, .int .i64 d.law.brk, .int .i64 d.law.on, .int .i64 d.law.off, .int .i64 d.law.least, .int .i64 d.law.pieces, .slice A1 d.blocks.length c1, .slice A2 d.walk.length c2] 27)) := (Below.refl _ _).alloc (Nat.le_refl _) _
  have G0 := Lib.hid (heap_alloc_new w (.cells #[.int .i64 d.law.piece, .int .i64 d.law.drive, .int .i64 d.law.spread, .int .i64 d.law.brk, .int .i64 d.law.on, .int .i64 d.law.off, .int .i64 d.law.least, .int .i64 d.law.pieces, .slice A1 d.blocks.length c1, .slice A2 d.walk.length c2] 27 (0, 0)))
  have Hda := Lib.hid hda

  clear hda
  go_enter Tryz.func8, Tryz.ntmps8
  have gc := box_cells G0.out
  have gf := box_frozen G0.out
  go_wp2_with fail
  refine (Gives.to Hr.out (light_any d _ _ _ (Hda.out.below hw0))).mono ?_
  rintro e w1 ⟨rfl, hb1⟩
  have hw1 := hw0.trans (hb1.mono hw0.size)
  have G1 := Lib.hid (box_step hb1 G0.out)
  replace gc := box_cells G1.out
  replace gf := box_frozen G1.out
  go_wp2_with fail
  refine (wakes_any _).mono ?_
  rintro e w2 ⟨rfl, hb2⟩
  have hw2 := hw1.trans (hb2.mono hw1.size)
  have G2 := Lib.hid (box_step hb2 G1.out)
  replace gc := box_cells G2.out
  replace gf := box_frozen G2.out
  go_wp2
  go_ret
  exact ⟨rfl, hw2⟩
set_option maxRecDepth 100000 in
set_option maxHeartbeats 800000 in
theorem Truth_dark_b (d : DDay) (u z v : Value) (ws : List Int) (x : Nat) (w : World) (hda : DayAt w u z d) (hv : NumsAt .u16 w v ws) (hw : ∀ y ∈ ws, 0 ≤ y ∧ y ≤ 65535) (hx : x < 65536) (hr : lightB d = true) (hs : segN d.blocks = 0) :
    Calls Tryz.prog 8 #[.agg #[.int .i64 d.law.piece, .int .i64 d.law.drive, .int .i64 d.law.spread, .int .i64 d.law.brk, .int .i64 d.law.on, .int .i64 d.law.off, .int .i64 d.law.least, .int .i64 d.law.pieces, u, z], .int .u16 (x : Int), v] w (Gives w (.bool true)) := by
  obtain ⟨AW, cW, rfl, _, _⟩ := hv.form
  have Hv := Lib.hid hv
  clear hv
  have hlt := hr
  unfold lightB at hlt
  rw [Bool.and_eq_true, decide_eq_true_eq] at hlt
  obtain ⟨_, hm, hf, hf0⟩ := ready_ok hlt.1
  have h8 := hlt.2
  have hd := fault_ok hf
  clear hlt hf hf0 hd
  have Hr := Lib.hid hr
  clear hr
  obtain ⟨A1, c1, rfl, _, _⟩ := hda.blocks.form
  obtain ⟨A2, c2, rfl, _, _⟩ := hda.walk.form
  have hw0 : Below w.heap.size w (w.alloc (.cells #[.int .i64 d.law.piece, .int .i64 d.law.drive, .int .i64 d.law.spread, .int .i64 d.law.brk, .int .i64 d.law.on, .int .i64 d.law.off, .int .i64 d.law.least, .int .i64 d.law.pieces, .slice A1 d.blocks.length c1, .slice A2 d.walk.length c2] 27)) := (Below.refl _ _).alloc (Nat.le_refl _) _
  have G0 := Lib.hid (heap_alloc_new w (.cells #[.int .i64 d.law.piece, .int .i64 d.law.drive, .int .i64 d.law.spread, .int .i64 d.law.brk, .int .i64 d.law.on, .int .i64 d.law.off, .int .i64 d.law.least, .int .i64 d.law.pieces, .slice A1 d.blocks.length c1, .slice A2 d.walk.length c2] 27 (0, 0)))
  have Hda := Lib.hid hda

  clear hda
  go_enter Tryz.func8, Tryz.ntmps8
  have gc := box_cells G0.out
  have gf := box_frozen G0.out
  go_wp2_with fail
  refine (Gives.to Hr.out (light_any d _ _ _ (Hda.out.below hw0))).mono ?_
  rintro e w1 ⟨rfl, hb1⟩
  have hw1 := hw0.trans (hb1.mono hw0.size)
  have G1 := Lib.hid (box_step hb1 G0.out)
  replace gc := box_cells G1.out
  replace gf := box_frozen G1.out
  go_wp2_with fail
  refine (Segments_any d _ _ _ (Hda.out.below hw1) hm).mono ?_
  rintro e w2 ⟨rfl, hb2⟩
  have hw2 := hw1.trans (hb2.mono hw1.size)
  have G2 := Lib.hid (box_step hb2 G1.out)
  replace gc := box_cells G2.out
  replace gf := box_frozen G2.out
  rw [hs]
  go_wp2_with fail
  refine (wakes_any _).mono ?_
  rintro e w3 ⟨rfl, hb3⟩
  have hw3 := hw2.trans (hb3.mono hw2.size)
  have G3 := Lib.hid (box_step hb3 G2.out)
  replace gc := box_cells G3.out
  replace gf := box_frozen G3.out
  go_wp2
  go_ret
  exact ⟨rfl, hw3⟩
set_option maxRecDepth 100000 in
set_option maxHeartbeats 12800000 in
theorem Truth_main (d : DDay) (u z v : Value) (ws : List Int) (x : Nat) (w : World) (hda : DayAt w u z d) (hv : NumsAt .u16 w v ws) (hw : ∀ y ∈ ws, 0 ≤ y ∧ y ≤ 65535) (hx : x < 65536) (hr : lightB d = true) (hs : segN d.blocks ≠ 0) :
    Calls Tryz.prog 8 #[.agg #[.int .i64 d.law.piece, .int .i64 d.law.drive, .int .i64 d.law.spread, .int .i64 d.law.brk, .int .i64 d.law.on, .int .i64 d.law.off, .int .i64 d.law.least, .int .i64 d.law.pieces, u, z], .int .u16 (x : Int), v] w (Gives w (.bool true)) := by
  obtain ⟨AW, cW, rfl, _, _⟩ := hv.form
  have Hv := Lib.hid hv
  clear hv
  have hlt := hr
  unfold lightB at hlt
  rw [Bool.and_eq_true, decide_eq_true_eq] at hlt
  obtain ⟨_, hm, hf, hf0⟩ := ready_ok hlt.1
  have h8 := hlt.2
  have hd := fault_ok hf
  obtain ⟨i0, hi0, hz0, hz1, hz2⟩ := info_parts infoI
  obtain ⟨i1, hi1, hy0, hy1, hy2⟩ := info_parts infoR
  obtain ⟨hE1, hE2, hE3, hE4⟩ := best_cases hd
  have hsd := set_duty (d := d) x (by omega)
  obtain ⟨NS, hNS⟩ : ∃ n, segN d.blocks = n := ⟨_, rfl⟩
  obtain ⟨PL, hPL⟩ : ∃ n, (bestR d).length = n := ⟨_, rfl⟩
  obtain ⟨EE, hEE⟩ : ∃ n, bestE d = n := ⟨_, rfl⟩
  rw [hPL] at hE1 hE3
  rw [hEE] at hE4
  obtain ⟨TS, hTS⟩ : ∃ L, bestR d ++ [setL NS x] = L := ⟨_, rfl⟩
  have hTl : TS.length = PL + 1 := by rw [← hTS]; simp [hPL]
  have hTd : ∀ l ∈ TS, IsDuty d l := fun l hl => by
    rw [← hTS] at hl
    rcases List.mem_append.1 hl with h | h
    · exact (hE2 l h).1
    · rw [hNS] at hsd
      obtain rfl := List.mem_singleton.1 h
      exact hsd
  have hTp : ∀ k l, k < PL → TS[k]? = some l → (bestR d)[k]? = some l ∧ legalL d l = true := fun k l hk h => by
    rw [← hTS, List.getElem?_append_left (by omega)] at h
    exact ⟨h, (hE2 l (List.mem_of_getElem? h)).2⟩
  have hRl : ∀ (j : Nat) (l : List Int), ((bestR d).map natsI)[j]? = some l → l.length ≤ 1000 := fun j l h => by
    rw [List.getElem?_map] at h
    cases e : (bestR d)[j]? with
    | none => rw [e] at h; simp at h
    | some m =>
      rw [e] at h
      simp at h
      subst h
      have := duty_len (hE2 m (List.mem_of_getElem? e)).1
      rw [natsI_len]
      omega
  have h80 : NS ≤ 8 := by omega
  have hE30 : PL ≤ 8 := by omega
  have hNI : ¬ ((NS : Int) = 0) := by omega
  have HNS := Lib.hid hNS
  have HPL := Lib.hid hPL
  have HEE := Lib.hid hEE
  have HE1 := Lib.hid hE1
  have HE4 := Lib.hid hE4
  have HTS := Lib.hid hTS
  have HTl := Lib.hid hTl
  have HTd := Lib.hid hTd
  have HTp := Lib.hid hTp
  have HRl := Lib.hid hRl
  have Hd := Lib.hid hd
  have Hm := Lib.hid hm
  have Hf := Lib.hid hf
  have Hr := Lib.hid hr
  have Hw := Lib.hid hw
  clear hlt hf0 hr hE1 hE2 hE3 hE4 hsd hNS hPL hEE hTS hTl hTd hTp hRl hd hf hw h8 hs hm
  obtain ⟨A1, c1, rfl, _, _⟩ := hda.blocks.form
  obtain ⟨A2, c2, rfl, _, _⟩ := hda.walk.form
  have hw0 : Below w.heap.size w (w.alloc (.cells #[.int .i64 d.law.piece, .int .i64 d.law.drive, .int .i64 d.law.spread, .int .i64 d.law.brk, .int .i64 d.law.on, .int .i64 d.law.off, .int .i64 d.law.least, .int .i64 d.law.pieces, .slice A1 d.blocks.length c1, .slice A2 d.walk.length c2] 27)) := (Below.refl _ _).alloc (Nat.le_refl _) _
  have G0 := Lib.hid (heap_alloc_new w (.cells #[.int .i64 d.law.piece, .int .i64 d.law.drive, .int .i64 d.law.spread, .int .i64 d.law.brk, .int .i64 d.law.on, .int .i64 d.law.off, .int .i64 d.law.least, .int .i64 d.law.pieces, .slice A1 d.blocks.length c1, .slice A2 d.walk.length c2] 27 (0, 0)))
  have Hda := Lib.hid hda

  clear hda
  go_enter Tryz.func8, Tryz.ntmps8
  have gc := box_cells G0.out
  have gf := box_frozen G0.out
  go_wp2_with fail
  refine (Gives.to Hr.out (light_any d _ _ _ (Hda.out.below hw0))).mono ?_
  rintro e w1 ⟨rfl, hb1⟩
  have hw1 := hw0.trans (hb1.mono hw0.size)
  have G1 := Lib.hid (box_step hb1 G0.out)
  replace gc := box_cells G1.out
  replace gf := box_frozen G1.out
  go_wp2_with fail
  refine (Segments_any d _ _ _ (Hda.out.below hw1) Hm.out).mono ?_
  rintro e w2 ⟨rfl, hb2⟩
  have hw2 := hw1.trans (hb2.mono hw1.size)
  have G2 := Lib.hid (box_step hb2 G1.out)
  replace gc := box_cells G2.out
  replace gf := box_frozen G2.out
  rw [HNS.out]
  go_wp2_with fail
  refine (Truly_any d _ _ _ ws _ (Hda.out.below hw2) Hd.out (Hv.out.below hw2) Hw.out).mono ?_
  rintro e w3 ⟨tt, htt, AT, cT, usT, rfl, hoT, hrT, hb3⟩
  have hw3 := hw2.trans (hb3.mono hw2.size)
  have G3 := Lib.hid (box_step hb3 G2.out)
  replace gc := box_cells G3.out
  replace gf := box_frozen G3.out
  have htl := (truth_spec htt).1
  have htr : ∀ (j : Nat) (l : List Int), tt[j]? = some l → l.length ≤ 1000 := fun j l hl => by
    have hj := (List.getElem?_eq_some_iff.1 hl).1
    have h2 := ((truth_spec htt).2 j (by omega)).1
    rw [hl, Option.getD_some] at h2
    rw [h2]
    have h3 := Hm.out.block j _ (List.getElem?_eq_getElem (by omega))
    rw [List.getElem?_eq_getElem (by omega), Option.getD_some]
    exact h3
  have hbl6 := Hd.out.blocks
  have htl0 : tt.length ≤ 1000 := by omega
  have hT := rows_of_own hoT hrT
  have Htt := Lib.hid htt
  have Htr := Lib.hid htr
  obtain ⟨TL, hTL⟩ : ∃ n, tt.length = n := ⟨_, rfl⟩
  rw [hTL] at hT htl0 ⊢
  have HTL := Lib.hid hTL
  clear hoT hrT htt htr htl hTL
  go_wp2_with fail
  refine (DayC_any d _ _ _ (Hda.out.below hw3) Hm.out).mono ?_
  rintro e w4 ⟨B14, B24, e14, e24, rfl, hd4, hb4⟩
  have hw4 := hw3.trans (hb4.mono hw3.size)
  have G4 := Lib.hid (box_step hb4 G3.out)
  replace gc := box_cells G4.out
  replace gf := box_frozen G4.out
  replace hT := hT.below hb4
  go_wp2_with fail
  refine (Best1_any d _ _ _ hd4 Hm.out Hf.out).mono ?_
  rintro e w5 ⟨AP, cP, rfl, hP, hb5⟩
  have hw5 := hw4.trans (hb5.mono hw4.size)
  have G5 := Lib.hid (box_step hb5 G4.out)
  replace gc := box_cells G5.out
  replace gf := box_frozen G5.out
  replace hT := hT.below hb5
  clear hd4
  rw [HE1.out] at hP
  rw [HE1.out, HEE.out]
  have hRL : ((bestR d).map natsI).length = PL := by rw [List.length_map, HPL.out]
  generalize bestPay d = BP
  go_upto_region 5 with (fail)
  go_cut [46] from 41 to 45 (fun z wx => z = .bool false ∧ wx = w5)
  case first =>
    rcases HE4.out with ⟨rfl, _⟩ | rfl
    · go_wp2
      go_meet
      case rel => exact ⟨rfl, rfl⟩
    · go_wp2
      go_meet
      case rel => exact ⟨rfl, rfl⟩
  case rest =>
    obtain ⟨rfl, rfl⟩ := hcut
    go_wp2_with fail
    refine (Segments_any d _ _ _ (Hda.out.below hw5) Hm.out).mono ?_
    rintro e w6 ⟨rfl, hb6⟩
    have hw6 := hw5.trans (hb6.mono hw5.size)
    have G6 := Lib.hid (box_step hb6 G5.out)
    replace gc := box_cells G6.out
    replace gf := box_frozen G6.out
    replace hT := hT.below hb6
    replace hP := hP.below hb6
    rw [HNS.out]
    have hsg : w.heap.size < w6.heap.size := (Array.getElem?_eq_some_iff.1 G6.out).1
    have HT0 := Lib.hid hT
    have HP0 := Lib.hid hP
    clear hT hP
    go_upto_region 8 with (at_make; refine wpList_make_full _ rfl _ _ 28 rfl w6.heap.size 3 i0 _ 1 Tryz.underlying28 hi0 hz0 hz1 _ _ _ _ NS rfl rfl rfl rfl (by rw [hz2]; omega) (by simp [maxLen]; omega) (Nat.le_refl _) ?_; intro wm hownm hgm; have hbm : Below w6.heap.size w6 wm := (Below.refl _ _).grown hgm (Nat.le_refl _) (by simp); have Hownm := Lib.hid hownm; clear hownm hgm)
    have hmade : (madeCells (Value.int .i64 0).cells (NS * 1)).toList = (seenL NS ((bestR d).take 0)).map (.int .i64) := by
      rw [List.take_zero, seenL_nil, Nat.mul_one, List.map_replicate]
      exact toList_madeCells_one _ _
    have hbk := block_own Hownm.out
    rw [hmade] at hbk
    have Hbk := Lib.hid hbk
    have Hbm := Lib.hid hbm
    have hgm : w6.heap.size < wm.heap.size := (Array.getElem?_eq_some_iff.1 hbk).1
    clear hbk hmade Hownm
    obtain ⟨g, hg⟩ : ∃ g, w6.heap.size = g := ⟨_, rfl⟩
    rw [hg] at Hbk Hbm hgm ⊢
    have Hg := Lib.hid hg
    clear hg
    have hwm : Below w.heap.size w wm := hw6.trans (Below.mono (by rw [Hg.out]; exact Hbm.out) hw6.size)
    have Hwm := Lib.hid hwm
    have Gm := Lib.hid (box_step (by rw [Hg.out]; exact Hbm.out) G6.out : _)
    replace gc := box_cells Gm.out
    replace gf := box_frozen Gm.out
    have HPm := Lib.hid (HP0.out.below (by rw [Hg.out]; exact Hbm.out))
    have hwlt : w.heap.size < g := by rw [← Hg.out]; exact hsg
    clear hbm hwm
    go_upto_region 8 with (fail)
    refine wp_region_noPanic ?_
    refine wp_region_pick [0, 2, 3] [1, 4, 5, 6, 7] (fun _ => true) (fun w' => Below wm.heap.size wm w') (by kernel_rfl) (by kernel_rfl) (fun _ _ _ _ _ h => h) (Below.refl _ _).drew (fun hne => ?_)
    have n0 := fun q : Meets (fun w' => Below wm.heap.size wm w') => cell_below q.property (gc 0)
    have n1 := fun q : Meets (fun w' => Below wm.heap.size wm w') => cell_below q.property (gc 1)
    have n2 := fun q : Meets (fun w' => Below wm.heap.size wm w') => cell_below q.property (gc 2)
    have n3 := fun q : Meets (fun w' => Below wm.heap.size wm w') => cell_below q.property (gc 3)
    have n4 := fun q : Meets (fun w' => Below wm.heap.size wm w') => cell_below q.property (gc 4)
    have n5 := fun q : Meets (fun w' => Below wm.heap.size wm w') => cell_below q.property (gc 5)
    have n6 := fun q : Meets (fun w' => Below wm.heap.size wm w') => cell_below q.property (gc 6)
    have n7 := fun q : Meets (fun w' => Below wm.heap.size wm w') => cell_below q.property (gc 7)
    have n8 := fun q : Meets (fun w' => Below wm.heap.size wm w') => cell_below q.property (gc 8)
    have n9 := fun q : Meets (fun w' => Below wm.heap.size wm w') => cell_below q.property (gc 9)
    simp only [pick, pickN, List.filterMap_cons, List.filterMap_nil, List.getElem?_cons_zero, List.getElem?_cons_succ, Option.map_some]
    repeat (change wpQuiet _ _ _ _ (_ :: _) _; go_big_quiet_step (fail))
    refine wpQuiet_nil ?_
    clear n0 n1 n2 n3 n4 n5 n6 n7 n8 n9 hne
    have Ac0 := Lib.hid (Below.refl wm.heap.size wm).drew
    obtain ⟨V0, hV0⟩ : ∃ V, V = wm.drew := ⟨_, rfl⟩
    rw [← hV0] at Ac0 ⊢
    clear hV0
    refine wpSeqP_step (fun K hK => ?_)
    go_simp
    refine (rows_any _ ((bestR d).map natsI) _ (HPm.out.below Ac0.out) (by rw [hRL]; omega) HRl.out).mono ?_
    rintro e x1 ⟨RA, Rc, us1, rfl, ho1, hr1, hb1⟩
    rw [hRL] at ho1 ⊢
    replace ho1 := own_mono ho1 Ac0.out.size
    replace hr1 := hr1.mono Ac0.out.size
    have Ac1 := Lib.hid (Ac0.out.trans (hb1.mono Ac0.out.size))
    refine hK.out _ _ (fun _ => Ac1.out) ?_
    clear hK K hb1
    refine wpSeqP_step (fun K hK => ?_)
    go_simp
    refine (Set_any d _ _ x _ (Hda.out.below (Hwm.out.trans (Ac1.out.mono Hwm.out.size))) Hm.out (by rw [HNS.out]; omega) hx).mono ?_
    rintro e x2 ⟨SA, Sc, rfl, ho2, hb2⟩
    rw [HNS.out] at ho2 ⊢
    replace ho2 := own_mono ho2 Ac1.out.size
    replace ho1 := own_below ho1 hb2
    replace hr1 := hr1.below hb2
    have Ac2 := Lib.hid (Ac1.out.trans (hb2.mono Ac1.out.size))
    refine hK.out _ _ (fun _ => Ac2.out) ?_
    clear hK K hb2
    obtain ⟨SL, hSL⟩ : ∃ n, (natsI (setL NS x)).length = n := ⟨_, rfl⟩
    have hr2 := hr1.snoc ho2
    rw [hSL] at ho2 ⊢
    refine wpSeqP_step (fun K hK => ?_)
    go_simp
    have Ac3 := Lib.hid (Ac2.out.alloc Ac2.out.size (.cells #[.slice SA SL Sc] 28))
    have hba := (Below.refl x2.heap.size x2).alloc (Nat.le_refl _) (.cells #[.slice SA SL Sc] 28)
    have Ho3 := Lib.hid (own_below ho1 hba)
    have Hs3 := Lib.hid (src_new x2 [.slice SA SL Sc] 28 1 1 rfl)
    rw [hSL] at hr2
    have Hr3 := Lib.hid (hr2.below hba)
    refine hK.out _ _ (fun _ => Ac3.out) ?_
    clear hK K hba ho1 hr1 ho2 hr2 hSL
    refine wpSeqP_step (fun K hK => ?_)
    refine step_append_src _ rfl (.tmp 51) (.tmp 55) 25 rfl wm.heap.size 28 i1 _ 1 24 Tryz.underlying25 hi1 hy0 hy1 hy2 rfl (by omega) _ PL _ rfl Ho3.out (some ⟨x2.heap.size, 0, none⟩) 1 1 [.slice SA SL Sc] rfl Hs3.out (by simp [Value.oneCell']) (by unfold maxLen; omega) (by omega) Ac3.out.size ?_
    intro A4 k4 x4 hown4 hg4 _
    have Ac4 := Lib.hid (below_grown Ac3.out hg4 Ac3.out.size Ho3.out (Nat.le_refl _))
    have hr4 := Hr3.out.kept Ho3.out (by decide) hg4
    have hmap : (bestR d).map natsI ++ [natsI (setL NS x)] = TS.map natsI := by rw [← HTS.out]; simp
    rw [hmap] at hr4
    obtain ⟨us4, hus4⟩ : ∃ us, us1 ++ [.slice SA SL Sc] = us := ⟨_, rfl⟩
    rw [hus4] at hown4 hr4
    obtain ⟨gT, rfl⟩ : ∃ gT, A4 = some ⟨gT, 0, none⟩ := by
      rcases hown4.2 with ⟨_, h0⟩ | ⟨gT, cap, cur, e9, _⟩
      · omega
      · cases e9; exact ⟨gT, rfl⟩
    have Ho4 := Lib.hid hown4
    have Hr4 := Lib.hid hr4
    have Hbk4 := Lib.hid (box_step Ac4.out Hbk.out)
    have hgW : g < wm.heap.size := hgm
    refine hK.out _ _ (fun _ => Ac4.out) ?_
    clear hK K hown4 hg4 hr4 hmap hus4
    refine wpSeqP_step (fun K hK => ?_)
    go_simp
    refine hK.out _ _ (fun _ => Ac4.out) ?_
    clear hK K
    refine wpSeqP_nil ?_
    refine NoPanic.normal ?_
    have Hb4 := Lib.hid (Hbm.out.trans (Ac4.out.mono (Nat.le_of_lt hgm)))
    obtain ⟨B, hB⟩ : ∃ B, wm.heap.size = B := ⟨_, rfl⟩
    rw [hB] at Ho4 Hr4 hgW
    clear Hbk Hr3 Ho3 Hs3 Ac0 Ac1 Ac2 Ac3 hB
    clear Gm
    have G4 := Lib.hid (box_step (by rw [Hg.out]; exact Hb4.out) G6.out)
    replace gc := box_cells G4.out
    replace gf := box_frozen G4.out
    go_wp2
    go_loopw [13] (fun s wr => ∃ i : Nat, i ≤ PL + 1 ∧ s = .int .i64 (i : Int) ∧ Below g w6 wr ∧ wr.heap[g]? = some (.cells ((seenL NS ((bestR d).take i)).map (.int .i64)).toArray 3 (0, 0)) ∧ wr.ownsRow B 28 1 (.slice (some ⟨gT, 0, none⟩) (PL + 1) k4) (PL + 1) us4 ∧ RowsOwn wr B us4 (TS.map natsI)) (fun s wr => PL + 1 - (intOf s).toNat)
    case atStart => exact ⟨0, by omega, rfl, Hb4.out, Hbk4.out, Ho4.out, Hr4.out⟩
    case round =>
      obtain ⟨i, hi, rfl, hbr, hsn, hto, htr⟩ := hrel
      obtain ⟨wo, rfl⟩ : ∃ wo : World, wo = wr := ⟨_, rfl⟩
      have hbo : Below w6.heap.size w6 wo := by rw [Hg.out]; exact hbr
      have hwo := hw6.trans (hbo.mono hw6.size)
      have Go := Lib.hid (box_step hbo G6.out)
      replace gc := box_cells Go.out
      replace gf := box_frozen Go.out
      have Hsn := Lib.hid hsn
      have Hto := Lib.hid hto
      have Htr2 := Lib.hid htr
      have hT := HT0.out.below hbo
      have Hbr := Lib.hid hbr
      have hgo : g < wo.heap.size := (Array.getElem?_eq_some_iff.1 hsn).1
      clear hsn hto htr hbr
      by_cases hlt : i < PL + 1
      · skip
        obtain ⟨l, hl⟩ : ∃ l, TS[i]? = some l := ⟨_, List.getElem?_eq_getElem (by rw [HTl.out]; exact hlt)⟩
        have hld := HTd.out l (List.mem_of_getElem? hl)
        obtain ⟨RA, Rc, hcl, hnl⟩ := RowsOwn.row (l := natsI l) (k := i) Hto.out Htr2.out (by rw [List.getElem?_map, hl]; rfl)
        rw [natsI_len] at hcl hnl
        obtain ⟨N, hN⟩ : ∃ n, l.length = n := ⟨_, rfl⟩
        have hN8 : N ≤ 8 := by have := duty_len hld; rw [HNS.out] at this; omega
        rw [hN] at hcl hnl
        have HN := Lib.hid hN
        have Hld := Lib.hid hld
        have Hl := Lib.hid hl
        have Hdb : Hid (dutyB (segN d.blocks) (natsI l) = true) := Lib.hid (dutyB_iff.2 (dutyI_iff.2 ⟨by rw [natsOf_natsI], by rw [natsOf_natsI]; exact hld⟩))
        have hNl : (natsI l).length ≤ 1000 := by rw [natsI_len, hN]; omega
        have HNl := Lib.hid hNl
        obtain ⟨ps, hps⟩ : ∃ ps, piecesL d l = ps := ⟨_, rfl⟩
        obtain ⟨IS, hIS⟩ : ∃ b, legalL d l = b := ⟨_, rfl⟩
        have hli := fun h : IS = true => legal_in Hd.out hld (hIS.trans h) Htt.out
        have hpi := pay_in Hd.out hld Htt.out
        rw [hps] at hli hpi
        have HDo := Lib.hid (fun (u z v vt : Value) (W : World) (h1 : DayAt W u z d) (h2 : NumsAt .i64 W v (natsI l)) (h3 : RowsAt W vt tt) => (natsOf_natsI l ▸ Do_ok d u z v vt (natsI l) tt W h1 Hm.out h2 hNl h3 Hd.out Hdb.out Htt.out : Calls Tryz.prog 37 #[.agg #[.int .i64 d.law.piece, .int .i64 d.law.drive, .int .i64 d.law.spread, .int .i64 d.law.brk, .int .i64 d.law.on, .int .i64 d.law.off, .int .i64 d.law.least, .int .i64 d.law.pieces, u, z], v, vt] W (GivesDo d (tabT tt) (piecesL d l) W)))
        rw [hps] at HDo
        have Hps := Lib.hid hps
        have HIS := Lib.hid hIS
        have hip : i < PL → IS = true := fun h => by rw [← hIS]; exact (HTp.out i l h hl).2
        have Hli := Lib.hid hli
        have Hpi := Lib.hid hpi
        have Hip := Lib.hid hip
        have iI : (i : Int) < ((PL + 1 : Nat) : Int) := by omega
        have iI2 : (i : Int) < (PL : Int) + 1 := by omega
        clear hl hld hN hps hIS hli hpi hip hNl
        go_upto_region 12 with (fail)
        go_wp2_with fail
        refine wp_region_noPanic ?_
        refine wp_region_pick [0, 1, 2, 3, 4] [5, 6] (fun _ => true) (fun w' => Below wo.heap.size wo w') (by kernel_rfl) (by kernel_rfl) (fun _ _ _ _ _ h => h) (Below.refl _ _).drew (fun hne => ?_)
        have n0 := fun x : Meets (fun w' => Below wo.heap.size wo w') => cell_below x.property (box_cells Go.out 0)
        have n1 := fun x : Meets (fun w' => Below wo.heap.size wo w') => cell_below x.property (box_cells Go.out 1)
        have n2 := fun x : Meets (fun w' => Below wo.heap.size wo w') => cell_below x.property (box_cells Go.out 2)
        have n3 := fun x : Meets (fun w' => Below wo.heap.size wo w') => cell_below x.property (box_cells Go.out 3)
        have n4 := fun x : Meets (fun w' => Below wo.heap.size wo w') => cell_below x.property (box_cells Go.out 4)
        have n5 := fun x : Meets (fun w' => Below wo.heap.size wo w') => cell_below x.property (box_cells Go.out 5)
        have n6 := fun x : Meets (fun w' => Below wo.heap.size wo w') => cell_below x.property (box_cells Go.out 6)
        have n7 := fun x : Meets (fun w' => Below wo.heap.size wo w') => cell_below x.property (box_cells Go.out 7)
        have n8 := fun x : Meets (fun w' => Below wo.heap.size wo w') => cell_below x.property (box_cells Go.out 8)
        have n9 := fun x : Meets (fun w' => Below wo.heap.size wo w') => cell_below x.property (box_cells Go.out 9)
        have n10 := fun x : Meets (fun w' => Below wo.heap.size wo w') => cell_below x.property (hcl)
        simp only [pick, pickN, List.filterMap_cons, List.filterMap_nil, List.getElem?_cons_zero, List.getElem?_cons_succ, Option.map_some]
        repeat (change wpQuiet _ _ _ _ (_ :: _) _; go_big_quiet_step (fail))
        refine wpQuiet_nil ?_
        clear n0 n1 n2 n3 n4 n5 n6 n7 n8 n9 n10 hne
        have hb7 : Below wo.heap.size wo wo.drew := (Below.refl _ _).drew
        have HS7 := Lib.hid hb7
        obtain ⟨w7, hwe7⟩ : ∃ W, W = wo.drew := ⟨_, rfl⟩
        rw [← hwe7] at hb7 HS7 ⊢
        clear hwe7
        have hw7 := hwo.trans (hb7.mono hwo.size)
        have G7 := Lib.hid (box_step hb7 Go.out)
        replace gc := box_cells G7.out
        replace gf := box_frozen G7.out
        replace hnl := hnl.below hb7
        replace hT := hT.below hb7
        refine wpSeqP_step (fun K hK => ?_)
        go_simp
        refine (Gives.to Hdb.out (IsDuty_any d _ _ _ (natsI l) _ (Hda.out.below hw7) Hd.out hnl HNl.out)).mono ?_
        rintro e w8 ⟨rfl, hb8⟩
        have HS8 := Lib.hid (HS7.out.trans (hb8.mono HS7.out.size))
        have hw8 := hw7.trans (hb8.mono hw7.size)
        have G8 := Lib.hid (box_step hb8 G7.out)
        replace gc := box_cells G8.out
        replace gf := box_frozen G8.out
        replace hnl := hnl.below hb8
        replace hT := hT.below hb8
        refine hK.out _ _ (fun _ => HS8.out) ?_
        clear hK K
        refine wpSeqP_step (fun K hK => ?_)
        go_simp
        refine hK.out _ _ (fun _ => HS8.out) ?_
        clear hK K
        refine wpSeqP_nil ?_
        refine NoPanic.normal ?_
        replace hcl := cell_below HS8.out hcl
        have hA12 := Lib.hid (HS8.out)
        go_upto_region 14 with (fail)
        refine wp_region_noPanic ?_
        refine wp_region_ph [([0, 2, 3, 4, 5], [1, 6, 7]), ([8, 9, 10], [11, 12])] (fun _ => true) (fun w' => Below w8.heap.size w8 w') (by kernel_rfl) (by kernel_rfl) (fun _ _ _ _ _ h => h) ?_
        have hb9 : Below w8.heap.size w8 w8.drew := (Below.refl _ _).drew
        have HS9 := Lib.hid hb9
        obtain ⟨w9, hwe9⟩ : ∃ W, W = w8.drew := ⟨_, rfl⟩
        rw [← hwe9] at hb9 HS9 ⊢
        clear hwe9
        have hw9 := hw8.trans (hb9.mono hw8.size)
        have G9 := Lib.hid (box_step hb9 G8.out)
        replace gc := box_cells G9.out
        replace gf := box_frozen G9.out
        replace hnl := hnl.below hb9
        replace hT := hT.below hb9
        refine wpPh_cons HS9.out (fun hne => ?_)
        have n0 := fun x : Meets (fun w' => Below w8.heap.size w8 w') => cell_below x.property (box_cells G8.out 0)
        have n1 := fun x : Meets (fun w' => Below w8.heap.size w8 w') => cell_below x.property (box_cells G8.out 1)
        have n2 := fun x : Meets (fun w' => Below w8.heap.size w8 w') => cell_below x.property (box_cells G8.out 2)
        have n3 := fun x : Meets (fun w' => Below w8.heap.size w8 w') => cell_below x.property (box_cells G8.out 3)
        have n4 := fun x : Meets (fun w' => Below w8.heap.size w8 w') => cell_below x.property (box_cells G8.out 4)
        have n5 := fun x : Meets (fun w' => Below w8.heap.size w8 w') => cell_below x.property (box_cells G8.out 5)
        have n6 := fun x : Meets (fun w' => Below w8.heap.size w8 w') => cell_below x.property (box_cells G8.out 6)
        have n7 := fun x : Meets (fun w' => Below w8.heap.size w8 w') => cell_below x.property (box_cells G8.out 7)
        have n8 := fun x : Meets (fun w' => Below w8.heap.size w8 w') => cell_below x.property (box_cells G8.out 8)
        have n9 := fun x : Meets (fun w' => Below w8.heap.size w8 w') => cell_below x.property (box_cells G8.out 9)
        have n10 := fun x : Meets (fun w' => Below w8.heap.size w8 w') => cell_below x.property (hcl)
        simp only [pick, pickN, List.filterMap_cons, List.filterMap_nil, List.getElem?_cons_zero, List.getElem?_cons_succ, Option.map_some]
        repeat (change wpQuiet _ _ _ _ (_ :: _) _; go_big_quiet_step (fail))
        refine wpQuiet_nil ?_
        clear n0 n1 n2 n3 n4 n5 n6 n7 n8 n9 n10 hne
        refine wpSeqK_step (fun K hK => ?_)
        go_simp
        refine (DayC_any d _ _ _ (Hda.out.below hw9) Hm.out).mono ?_
        rintro e w10 ⟨B1x, B2x, e1x, e2x, rfl, hdx, hb10⟩
        have HS10 := Lib.hid (HS9.out.trans (hb10.mono HS9.out.size))
        have hw10 := hw9.trans (hb10.mono hw9.size)
        have G10 := Lib.hid (box_step hb10 G9.out)
        replace gc := box_cells G10.out
        replace gf := box_frozen G10.out
        replace hnl := hnl.below hb10
        replace hT := hT.below hb10
        refine hK.out _ _ (fun _ => HS10.out) ?_
        clear hK K
        refine wpSeqK_step (fun K hK => ?_)
        go_simp
        refine (copy_any _ (natsI l) _ hnl (by have := HNl.out; omega)).mono ?_
        rintro e w11 ⟨AC, cC, rfl, hoC, hb11⟩
        have HS11 := Lib.hid (HS10.out.trans (hb11.mono HS10.out.size))
        have hw11 := hw10.trans (hb11.mono hw10.size)
        have G11 := Lib.hid (box_step hb11 G10.out)
        replace gc := box_cells G11.out
        replace gf := box_frozen G11.out
        replace hnl := hnl.below hb11
        replace hT := hT.below hb11
        have HC := Lib.hid (nums_of_own (K := .i64) hoC)
        clear hoC
        replace hdx := hdx.below hb11
        refine hK.out _ _ (fun _ => HS11.out) ?_
        clear hK K
        refine wpSeqK_step (fun K hK => ?_)
        go_simp
        refine (LegalS_any d _ _ _ l _ hdx Hm.out Hf.out HC.out Hld.out).mono ?_
        rintro e w12 ⟨rfl, hb12⟩
        have HS12 := Lib.hid (HS11.out.trans (hb12.mono HS11.out.size))
        have hw12 := hw11.trans (hb12.mono hw11.size)
        have G12 := Lib.hid (box_step hb12 G11.out)
        replace gc := box_cells G12.out
        replace gf := box_frozen G12.out
        replace hnl := hnl.below hb12
        replace hT := hT.below hb12
        rw [HIS.out]
        clear HC hdx
        refine hK.out _ _ (fun _ => HS12.out) ?_
        clear hK K
        refine wpSeqK_nil ?_
        refine wpPh_cons HS12.out (fun hne => ?_)
        simp only [pick, pickN, List.filterMap_cons, List.filterMap_nil, List.getElem?_cons_zero, List.getElem?_cons_succ, Option.map_some]
        repeat (change wpQuiet _ _ _ _ (_ :: _) _; go_big_quiet_step (fail))
        refine wpQuiet_nil ?_
        clear  hne
        refine wpSeqK_step (fun K hK => ?_)
        go_simp
        refine hK.out _ _ (fun _ => HS12.out) ?_
        clear hK K
        refine wpSeqK_step (fun K hK => ?_)
        go_simp
        refine hK.out _ _ (fun _ => HS12.out) ?_
        clear hK K
        refine wpSeqK_nil ?_
        refine wpPh_nil ?_
        refine NoPanic.normal ?_
        replace hcl := cell_below HS12.out hcl
        have hA14 := Lib.hid (hA12.out.trans (HS12.out.mono hA12.out.size))
        go_upto_region 15 with (fail)
        go_cut [16, 17] from 81 to 93 (fun y e wx => ∃ (G : Nat) (dr : Int) (bv : Value), y = .pointer (some ⟨G, 0, none⟩) ∧ e = .int .i64 0 ∧ Below w12.heap.size w12 wx ∧ wx.heap[G]? = some (.cells #[.int .i64 dr, .int .i64 (spreadP d (tabT tt) (tabT tt) ps), bv, .bool (obeysB d (tabT tt) (tabT tt) ps)] 63 (0, 0)))
        case first =>
          have hwx := hw12
          refine wp_region_noPanic ?_
          refine wp_region_pickA [0, 2, 3, 4, 5, 7] 10 (fun _ => true) (fun w' => Below w12.heap.size w12 w') (by kernel_rfl) (by kernel_rfl) (fun _ _ _ _ _ h => h) (Below.refl _ _).drew (fun hne => ?_)
          have n0 := fun q : Meets (fun w' => Below w12.heap.size w12 w') => cell_below q.property (gc 0)
          have n1 := fun q : Meets (fun w' => Below w12.heap.size w12 w') => cell_below q.property (gc 1)
          have n2 := fun q : Meets (fun w' => Below w12.heap.size w12 w') => cell_below q.property (gc 2)
          have n3 := fun q : Meets (fun w' => Below w12.heap.size w12 w') => cell_below q.property (gc 3)
          have n4 := fun q : Meets (fun w' => Below w12.heap.size w12 w') => cell_below q.property (gc 4)
          have n5 := fun q : Meets (fun w' => Below w12.heap.size w12 w') => cell_below q.property (gc 5)
          have n6 := fun q : Meets (fun w' => Below w12.heap.size w12 w') => cell_below q.property (gc 6)
          have n7 := fun q : Meets (fun w' => Below w12.heap.size w12 w') => cell_below q.property (gc 7)
          have n8 := fun q : Meets (fun w' => Below w12.heap.size w12 w') => cell_below q.property (gc 8)
          have n9 := fun q : Meets (fun w' => Below w12.heap.size w12 w') => cell_below q.property (gc 9)
          have n10 := fun q : Meets (fun w' => Below w12.heap.size w12 w') => cell_below q.property hcl
          simp only [pick, pickN, List.filterMap_cons, List.filterMap_nil, List.getElem?_cons_zero, List.getElem?_cons_succ, Option.map_some]
          repeat (change wpQuiet _ _ _ _ (_ :: _) _; go_big_quiet_step (fail))
          refine wpQuiet_nil ?_
          clear n0 n1 n2 n3 n4 n5 n6 n7 n8 n9 n10 hne
          have hnv := hnl.below (Below.refl w12.heap.size w12).drew
          have hTv := hT.below (Below.refl w12.heap.size w12).drew
          have Acw := Lib.hid (Below.refl w12.heap.size w12).drew
          obtain ⟨v0, hv0⟩ : ∃ V, V = w12.drew := ⟨_, rfl⟩
          rw [← hv0] at hnv hTv Acw ⊢
          clear hv0
          refine wpAnyF_two (i := 1) (j := 13) (by kernel_rfl) rfl rfl (fun K hK => ?_) (fun K hK => ?_)
          · skip
            go_simp
            refine (DayC_any d _ _ _ (Hda.out.below (hwx.trans (Acw.out.mono hwx.size))) Hm.out).mono ?_
            rintro e v1 ⟨dA, dB, dc, de, rfl, hdC, hb1⟩
            replace hnv := hnv.below hb1
            replace hTv := hTv.below hb1
            have Ac1 := Lib.hid (Acw.out.trans (hb1.mono Acw.out.size))
            refine hK.out _ _ (fun _ => Ac1.out) ?_
            clear hK K hb1
            refine wpAnyF_two (i := 6) (j := 13) (by kernel_rfl) rfl rfl (fun K hK => ?_) (fun K hK => ?_)
            · skip
              go_simp
              refine (copy_any _ (natsI l) _ hnv (by have := HNl.out; omega)).mono ?_
              rintro e v2 ⟨lA, lc, rfl, hlo, hb2⟩
              have hlN := nums_of_own (K := .i64) hlo
              clear hlo
              replace hnv := hnv.below hb2
              replace hTv := hTv.below hb2
              replace hdC := hdC.below hb2
              have Ac2 := Lib.hid (Ac1.out.trans (hb2.mono Ac1.out.size))
              refine hK.out _ _ (fun _ => Ac2.out) ?_
              clear hK K hb2
              refine wpAnyF_two (i := 8) (j := 13) (by kernel_rfl) rfl rfl (fun K hK => ?_) (fun K hK => ?_)
              · skip
                go_simp
                refine (rows_any _ tt _ hTv (by rw [HTL.out]; exact htl0) Htr.out).mono ?_
                rintro e v3 ⟨tA, tc, tus, rfl, hto9, htr9, hb3⟩
                have hTn := rows_of_own hto9 htr9
                clear hto9 htr9
                replace hnv := hnv.below hb3
                replace hTv := hTv.below hb3
                replace hdC := hdC.below hb3
                replace hlN := hlN.below hb3
                have Ac3 := Lib.hid (Ac2.out.trans (hb3.mono Ac2.out.size))
                refine hK.out _ _ (fun _ => Ac3.out) ?_
                clear hK K hb3
                refine wpAnyF_two (i := 9) (j := 13) (by kernel_rfl) rfl rfl (fun K hK => ?_) (fun K hK => ?_)
                · skip
                  go_simp
                  refine (HDo.out _ _ _ _ _ hdC hlN hTn).mono ?_
                  rintro e v4 ⟨bA, bc, rfl, _, hb4⟩
                  replace hnv := hnv.below hb4
                  replace hTv := hTv.below hb4
                  replace hdC := hdC.below hb4
                  replace hlN := hlN.below hb4
                  replace hTn := hTn.below hb4
                  have Ac4 := Lib.hid (Ac3.out.trans (hb4.mono Ac3.out.size))
                  refine hK.out _ _ (fun _ => Ac4.out) ?_
                  clear hK K hb4
                  refine wpAnyF_pick (by kernel_rfl) (fun _ _ _ _ _ h => h) 3 [10, 11, 12] _ _ _ (by kernel_rfl) Ac4.out ?_
                  have hne2 : Nonempty (Meets (fun w' => Below w12.heap.size w12 w')) := ⟨⟨_, Ac4.out⟩⟩
                  simp only [pick, List.filterMap_cons, List.filterMap_nil, List.getElem?_cons_zero, List.getElem?_cons_succ]
                  repeat (change wpQuiet _ _ _ _ (_ :: _) _; go_big_quiet_step (fail))
                  refine wpQuiet_nil ?_
                  clear hne2
                  refine wpAnyF_one (i := 13) (by kernel_rfl) rfl (fun K hK => ?_)
                  go_simp
                  have Ac5 := Lib.hid (Ac4.out.alloc Ac4.out.size (.cells #[.int .i64 0, .int .i64 0, .slice none 0 0, .bool false] 63))
                  have hal5 := (Below.refl v4.heap.size v4).alloc (Nat.le_refl _) (.cells #[.int .i64 0, .int .i64 0, .slice none 0 0, .bool false] 63)
                  replace hnv := hnv.below hal5
                  replace hTv := hTv.below hal5
                  replace hdC := hdC.below hal5
                  replace hlN := hlN.below hal5
                  replace hTn := hTn.below hal5
                  have hG : (v4.alloc (.cells #[.int .i64 0, .int .i64 0, .slice none 0 0, .bool false] 63)).heap[v4.heap.size]? = some (.cells #[.int .i64 0, .int .i64 0, .slice none 0 0, .bool false] 63 (0, 0)) := heap_alloc_new _ _
                  have hGl : w12.heap.size ≤ v4.heap.size := Ac4.out.size
                  refine hK.out _ _ (fun _ => Ac5.out) ?_
                  clear hK K hal5
                  obtain ⟨v5, hv5⟩ : ∃ V, V = v4.alloc (.cells #[.int .i64 0, .int .i64 0, .slice none 0 0, .bool false] 63) := ⟨_, rfl⟩
                  obtain ⟨G, hGe⟩ : ∃ G, G = v4.heap.size := ⟨_, rfl⟩
                  rw [← hv5] at Ac5 hG hnv hTv hdC hlN hTn ⊢
                  rw [← hGe] at hG hGl ⊢
                  clear hv5 hGe
                  refine wpAnyF_one (i := 14) (by kernel_rfl) rfl (fun K hK => ?_)
                  have q1 := box_cells hG
                  have q2 := box_frozen hG
                  go_simp
                  have hBs := ((((Ac5.out.setCell (p := ⟨G, 0, none⟩) hGl (.int .i64 (driveP (tabT tt) (tabT tt) ps))).setCell (p := ⟨G, 1, none⟩) hGl (.int .i64 (spreadP d (tabT tt) (tabT tt) ps))).setCell (p := ⟨G, 2, none⟩) hGl (.slice bA (ps.length - 1) bc)).setCell (p := ⟨G, 3, none⟩) hGl (.bool (obeysB d (tabT tt) (tabT tt) ps)))
                  have hG2 := blk_set (blk_set (blk_set (blk_set hG (o := 0) (.int .i64 (driveP (tabT tt) (tabT tt) ps))) (o := 1) (.int .i64 (spreadP d (tabT tt) (tabT tt) ps))) (o := 2) (.slice bA (ps.length - 1) bc)) (o := 3) (.bool (obeysB d (tabT tt) (tabT tt) ps))
                  refine hK.out _ _ (fun _ => hBs) ?_
                  clear hK K q1 q2
                  simp only [List.setIfInBounds_toArray, List.set_cons_succ, List.set_cons_zero] at hG2
                  refine wpAnyF_one (i := 15) (by kernel_rfl) rfl (fun K hK => ?_)
                  go_simp
                  refine hK.out _ _ (fun _ => hBs) ?_
                  clear hK K
                  refine wpAnyF_done (by kernel_rfl) ?_ _
                  refine NoPanic.normal ?_
                  go_wp2_with fail
                  go_meet
                  case rel => exact ⟨G, _, _, rfl, rfl, hBs, hG2⟩
                · skip
                  go_simp
                  have Ac5 := Lib.hid (Ac3.out.alloc Ac3.out.size (.cells #[.int .i64 0, .int .i64 0, .slice none 0 0, .bool false] 63))
                  have hal5 := (Below.refl v3.heap.size v3).alloc (Nat.le_refl _) (.cells #[.int .i64 0, .int .i64 0, .slice none 0 0, .bool false] 63)
                  replace hnv := hnv.below hal5
                  replace hTv := hTv.below hal5
                  replace hdC := hdC.below hal5
                  replace hlN := hlN.below hal5
                  replace hTn := hTn.below hal5
                  have hG : (v3.alloc (.cells #[.int .i64 0, .int .i64 0, .slice none 0 0, .bool false] 63)).heap[v3.heap.size]? = some (.cells #[.int .i64 0, .int .i64 0, .slice none 0 0, .bool false] 63 (0, 0)) := heap_alloc_new _ _
                  have hGl : w12.heap.size ≤ v3.heap.size := Ac3.out.size
                  refine hK.out _ _ (fun _ => Ac5.out) ?_
                  clear hK K hal5
                  obtain ⟨v5, hv5⟩ : ∃ V, V = v3.alloc (.cells #[.int .i64 0, .int .i64 0, .slice none 0 0, .bool false] 63) := ⟨_, rfl⟩
                  obtain ⟨G, hGe⟩ : ∃ G, G = v3.heap.size := ⟨_, rfl⟩
                  rw [← hv5] at Ac5 hG hnv hTv hdC hlN hTn ⊢
                  rw [← hGe] at hG hGl ⊢
                  clear hv5 hGe
                  refine wpAnyF_one (i := 9) (by kernel_rfl) rfl (fun K hK => ?_)
                  go_simp
                  refine (HDo.out _ _ _ _ _ hdC hlN hTn).mono ?_
                  rintro e v6 ⟨bA, bc, rfl, _, hb6⟩
                  replace hnv := hnv.below hb6
                  replace hTv := hTv.below hb6
                  replace hdC := hdC.below hb6
                  replace hlN := hlN.below hb6
                  replace hTn := hTn.below hb6
                  replace hG := (hb6.block _ (Array.getElem?_eq_some_iff.1 hG).1).trans hG
                  have Ac6 := Lib.hid (Ac5.out.trans (hb6.mono Ac5.out.size))
                  refine hK.out _ _ (fun _ => Ac6.out) ?_
                  clear hK K hb6
                  refine wpAnyF_pick (by kernel_rfl) (fun _ _ _ _ _ h => h) 2 [10, 11, 12] _ _ _ (by kernel_rfl) Ac6.out ?_
                  have hne2 : Nonempty (Meets (fun w' => Below w12.heap.size w12 w')) := ⟨⟨_, Ac6.out⟩⟩
                  simp only [pick, List.filterMap_cons, List.filterMap_nil, List.getElem?_cons_zero, List.getElem?_cons_succ]
                  repeat (change wpQuiet _ _ _ _ (_ :: _) _; go_big_quiet_step (fail))
                  refine wpQuiet_nil ?_
                  clear hne2
                  refine wpAnyF_one (i := 14) (by kernel_rfl) rfl (fun K hK => ?_)
                  have q1 := box_cells hG
                  have q2 := box_frozen hG
                  go_simp
                  have hBs := ((((Ac6.out.setCell (p := ⟨G, 0, none⟩) hGl (.int .i64 (driveP (tabT tt) (tabT tt) ps))).setCell (p := ⟨G, 1, none⟩) hGl (.int .i64 (spreadP d (tabT tt) (tabT tt) ps))).setCell (p := ⟨G, 2, none⟩) hGl (.slice bA (ps.length - 1) bc)).setCell (p := ⟨G, 3, none⟩) hGl (.bool (obeysB d (tabT tt) (tabT tt) ps)))
                  have hG2 := blk_set (blk_set (blk_set (blk_set hG (o := 0) (.int .i64 (driveP (tabT tt) (tabT tt) ps))) (o := 1) (.int .i64 (spreadP d (tabT tt) (tabT tt) ps))) (o := 2) (.slice bA (ps.length - 1) bc)) (o := 3) (.bool (obeysB d (tabT tt) (tabT tt) ps))
                  refine hK.out _ _ (fun _ => hBs) ?_
                  clear hK K q1 q2
                  simp only [List.setIfInBounds_toArray, List.set_cons_succ, List.set_cons_zero] at hG2
                  refine wpAnyF_one (i := 15) (by kernel_rfl) rfl (fun K hK => ?_)
                  go_simp
                  refine hK.out _ _ (fun _ => hBs) ?_
                  clear hK K
                  refine wpAnyF_done (by kernel_rfl) ?_ _
                  refine NoPanic.normal ?_
                  go_wp2_with fail
                  go_meet
                  case rel => exact ⟨G, _, _, rfl, rfl, hBs, hG2⟩
              · skip
                go_simp
                have Ac7 := Lib.hid (Ac2.out.alloc Ac2.out.size (.cells #[.int .i64 0, .int .i64 0, .slice none 0 0, .bool false] 63))
                have hal7 := (Below.refl v2.heap.size v2).alloc (Nat.le_refl _) (.cells #[.int .i64 0, .int .i64 0, .slice none 0 0, .bool false] 63)
                replace hnv := hnv.below hal7
                replace hTv := hTv.below hal7
                replace hdC := hdC.below hal7
                replace hlN := hlN.below hal7
                have hG : (v2.alloc (.cells #[.int .i64 0, .int .i64 0, .slice none 0 0, .bool false] 63)).heap[v2.heap.size]? = some (.cells #[.int .i64 0, .int .i64 0, .slice none 0 0, .bool false] 63 (0, 0)) := heap_alloc_new _ _
                have hGl : w12.heap.size ≤ v2.heap.size := Ac2.out.size
                refine hK.out _ _ (fun _ => Ac7.out) ?_
                clear hK K hal7
                obtain ⟨v7, hv7⟩ : ∃ V, V = v2.alloc (.cells #[.int .i64 0, .int .i64 0, .slice none 0 0, .bool false] 63) := ⟨_, rfl⟩
                obtain ⟨G, hGe⟩ : ∃ G, G = v2.heap.size := ⟨_, rfl⟩
                rw [← hv7] at Ac7 hG hnv hTv hdC hlN ⊢
                rw [← hGe] at hG hGl ⊢
                clear hv7 hGe
                refine wpAnyF_one (i := 8) (by kernel_rfl) rfl (fun K hK => ?_)
                go_simp
                refine (rows_any _ tt _ hTv (by rw [HTL.out]; exact htl0) Htr.out).mono ?_
                rintro e v8 ⟨tA, tc, tus, rfl, hto9, htr9, hb8⟩
                have hTn := rows_of_own hto9 htr9
                clear hto9 htr9
                replace hnv := hnv.below hb8
                replace hTv := hTv.below hb8
                replace hdC := hdC.below hb8
                replace hlN := hlN.below hb8
                replace hG := (hb8.block _ (Array.getElem?_eq_some_iff.1 hG).1).trans hG
                have Ac8 := Lib.hid (Ac7.out.trans (hb8.mono Ac7.out.size))
                refine hK.out _ _ (fun _ => Ac8.out) ?_
                clear hK K hb8
                refine wpAnyF_one (i := 9) (by kernel_rfl) rfl (fun K hK => ?_)
                go_simp
                refine (HDo.out _ _ _ _ _ hdC hlN hTn).mono ?_
                rintro e v9 ⟨bA, bc, rfl, _, hb9⟩
                replace hnv := hnv.below hb9
                replace hTv := hTv.below hb9
                replace hdC := hdC.below hb9
                replace hlN := hlN.below hb9
                replace hTn := hTn.below hb9
                replace hG := (hb9.block _ (Array.getElem?_eq_some_iff.1 hG).1).trans hG
                have Ac9 := Lib.hid (Ac8.out.trans (hb9.mono Ac8.out.size))
                refine hK.out _ _ (fun _ => Ac9.out) ?_
                clear hK K hb9
                refine wpAnyF_pick (by kernel_rfl) (fun _ _ _ _ _ h => h) 2 [10, 11, 12] _ _ _ (by kernel_rfl) Ac9.out ?_
                have hne2 : Nonempty (Meets (fun w' => Below w12.heap.size w12 w')) := ⟨⟨_, Ac9.out⟩⟩
                simp only [pick, List.filterMap_cons, List.filterMap_nil, List.getElem?_cons_zero, List.getElem?_cons_succ]
                repeat (change wpQuiet _ _ _ _ (_ :: _) _; go_big_quiet_step (fail))
                refine wpQuiet_nil ?_
                clear hne2
                refine wpAnyF_one (i := 14) (by kernel_rfl) rfl (fun K hK => ?_)
                have q1 := box_cells hG
                have q2 := box_frozen hG
                go_simp
                have hBs := ((((Ac9.out.setCell (p := ⟨G, 0, none⟩) hGl (.int .i64 (driveP (tabT tt) (tabT tt) ps))).setCell (p := ⟨G, 1, none⟩) hGl (.int .i64 (spreadP d (tabT tt) (tabT tt) ps))).setCell (p := ⟨G, 2, none⟩) hGl (.slice bA (ps.length - 1) bc)).setCell (p := ⟨G, 3, none⟩) hGl (.bool (obeysB d (tabT tt) (tabT tt) ps)))
                have hG2 := blk_set (blk_set (blk_set (blk_set hG (o := 0) (.int .i64 (driveP (tabT tt) (tabT tt) ps))) (o := 1) (.int .i64 (spreadP d (tabT tt) (tabT tt) ps))) (o := 2) (.slice bA (ps.length - 1) bc)) (o := 3) (.bool (obeysB d (tabT tt) (tabT tt) ps))
                refine hK.out _ _ (fun _ => hBs) ?_
                clear hK K q1 q2
                simp only [List.setIfInBounds_toArray, List.set_cons_succ, List.set_cons_zero] at hG2
                refine wpAnyF_one (i := 15) (by kernel_rfl) rfl (fun K hK => ?_)
                go_simp
                refine hK.out _ _ (fun _ => hBs) ?_
                clear hK K
                refine wpAnyF_done (by kernel_rfl) ?_ _
                refine NoPanic.normal ?_
                go_wp2_with fail
                go_meet
                case rel => exact ⟨G, _, _, rfl, rfl, hBs, hG2⟩
            · skip
              go_simp
              have Ac10 := Lib.hid (Ac1.out.alloc Ac1.out.size (.cells #[.int .i64 0, .int .i64 0, .slice none 0 0, .bool false] 63))
              have hal10 := (Below.refl v1.heap.size v1).alloc (Nat.le_refl _) (.cells #[.int .i64 0, .int .i64 0, .slice none 0 0, .bool false] 63)
              replace hnv := hnv.below hal10
              replace hTv := hTv.below hal10
              replace hdC := hdC.below hal10
              have hG : (v1.alloc (.cells #[.int .i64 0, .int .i64 0, .slice none 0 0, .bool false] 63)).heap[v1.heap.size]? = some (.cells #[.int .i64 0, .int .i64 0, .slice none 0 0, .bool false] 63 (0, 0)) := heap_alloc_new _ _
              have hGl : w12.heap.size ≤ v1.heap.size := Ac1.out.size
              refine hK.out _ _ (fun _ => Ac10.out) ?_
              clear hK K hal10
              obtain ⟨v10, hv10⟩ : ∃ V, V = v1.alloc (.cells #[.int .i64 0, .int .i64 0, .slice none 0 0, .bool false] 63) := ⟨_, rfl⟩
              obtain ⟨G, hGe⟩ : ∃ G, G = v1.heap.size := ⟨_, rfl⟩
              rw [← hv10] at Ac10 hG hnv hTv hdC ⊢
              rw [← hGe] at hG hGl ⊢
              clear hv10 hGe
              refine wpAnyF_one (i := 6) (by kernel_rfl) rfl (fun K hK => ?_)
              go_simp
              refine (copy_any _ (natsI l) _ hnv (by have := HNl.out; omega)).mono ?_
              rintro e v11 ⟨lA, lc, rfl, hlo, hb11⟩
              have hlN := nums_of_own (K := .i64) hlo
              clear hlo
              replace hnv := hnv.below hb11
              replace hTv := hTv.below hb11
              replace hdC := hdC.below hb11
              replace hG := (hb11.block _ (Array.getElem?_eq_some_iff.1 hG).1).trans hG
              have Ac11 := Lib.hid (Ac10.out.trans (hb11.mono Ac10.out.size))
              refine hK.out _ _ (fun _ => Ac11.out) ?_
              clear hK K hb11
              refine wpAnyF_one (i := 8) (by kernel_rfl) rfl (fun K hK => ?_)
              go_simp
              refine (rows_any _ tt _ hTv (by rw [HTL.out]; exact htl0) Htr.out).mono ?_
              rintro e v12 ⟨tA, tc, tus, rfl, hto9, htr9, hb12⟩
              have hTn := rows_of_own hto9 htr9
              clear hto9 htr9
              replace hnv := hnv.below hb12
              replace hTv := hTv.below hb12
              replace hdC := hdC.below hb12
              replace hlN := hlN.below hb12
              replace hG := (hb12.block _ (Array.getElem?_eq_some_iff.1 hG).1).trans hG
              have Ac12 := Lib.hid (Ac11.out.trans (hb12.mono Ac11.out.size))
              refine hK.out _ _ (fun _ => Ac12.out) ?_
              clear hK K hb12
              refine wpAnyF_one (i := 9) (by kernel_rfl) rfl (fun K hK => ?_)
              go_simp
              refine (HDo.out _ _ _ _ _ hdC hlN hTn).mono ?_
              rintro e v13 ⟨bA, bc, rfl, _, hb13⟩
              replace hnv := hnv.below hb13
              replace hTv := hTv.below hb13
              replace hdC := hdC.below hb13
              replace hlN := hlN.below hb13
              replace hTn := hTn.below hb13
              replace hG := (hb13.block _ (Array.getElem?_eq_some_iff.1 hG).1).trans hG
              have Ac13 := Lib.hid (Ac12.out.trans (hb13.mono Ac12.out.size))
              refine hK.out _ _ (fun _ => Ac13.out) ?_
              clear hK K hb13
              refine wpAnyF_pick (by kernel_rfl) (fun _ _ _ _ _ h => h) 2 [10, 11, 12] _ _ _ (by kernel_rfl) Ac13.out ?_
              have hne2 : Nonempty (Meets (fun w' => Below w12.heap.size w12 w')) := ⟨⟨_, Ac13.out⟩⟩
              simp only [pick, List.filterMap_cons, List.filterMap_nil, List.getElem?_cons_zero, List.getElem?_cons_succ]
              repeat (change wpQuiet _ _ _ _ (_ :: _) _; go_big_quiet_step (fail))
              refine wpQuiet_nil ?_
              clear hne2
              refine wpAnyF_one (i := 14) (by kernel_rfl) rfl (fun K hK => ?_)
              have q1 := box_cells hG
              have q2 := box_frozen hG
              go_simp
              have hBs := ((((Ac13.out.setCell (p := ⟨G, 0, none⟩) hGl (.int .i64 (driveP (tabT tt) (tabT tt) ps))).setCell (p := ⟨G, 1, none⟩) hGl (.int .i64 (spreadP d (tabT tt) (tabT tt) ps))).setCell (p := ⟨G, 2, none⟩) hGl (.slice bA (ps.length - 1) bc)).setCell (p := ⟨G, 3, none⟩) hGl (.bool (obeysB d (tabT tt) (tabT tt) ps)))
              have hG2 := blk_set (blk_set (blk_set (blk_set hG (o := 0) (.int .i64 (driveP (tabT tt) (tabT tt) ps))) (o := 1) (.int .i64 (spreadP d (tabT tt) (tabT tt) ps))) (o := 2) (.slice bA (ps.length - 1) bc)) (o := 3) (.bool (obeysB d (tabT tt) (tabT tt) ps))
              refine hK.out _ _ (fun _ => hBs) ?_
              clear hK K q1 q2
              simp only [List.setIfInBounds_toArray, List.set_cons_succ, List.set_cons_zero] at hG2
              refine wpAnyF_one (i := 15) (by kernel_rfl) rfl (fun K hK => ?_)
              go_simp
              refine hK.out _ _ (fun _ => hBs) ?_
              clear hK K
              refine wpAnyF_done (by kernel_rfl) ?_ _
              refine NoPanic.normal ?_
              go_wp2_with fail
              go_meet
              case rel => exact ⟨G, _, _, rfl, rfl, hBs, hG2⟩
          · skip
            go_simp
            have Ac14 := Lib.hid (Acw.out.alloc Acw.out.size (.cells #[.int .i64 0, .int .i64 0, .slice none 0 0, .bool false] 63))
            have hal14 := (Below.refl v0.heap.size v0).alloc (Nat.le_refl _) (.cells #[.int .i64 0, .int .i64 0, .slice none 0 0, .bool false] 63)
            replace hnv := hnv.below hal14
            replace hTv := hTv.below hal14
            have hG : (v0.alloc (.cells #[.int .i64 0, .int .i64 0, .slice none 0 0, .bool false] 63)).heap[v0.heap.size]? = some (.cells #[.int .i64 0, .int .i64 0, .slice none 0 0, .bool false] 63 (0, 0)) := heap_alloc_new _ _
            have hGl : w12.heap.size ≤ v0.heap.size := Acw.out.size
            refine hK.out _ _ (fun _ => Ac14.out) ?_
            clear hK K hal14
            obtain ⟨v14, hv14⟩ : ∃ V, V = v0.alloc (.cells #[.int .i64 0, .int .i64 0, .slice none 0 0, .bool false] 63) := ⟨_, rfl⟩
            obtain ⟨G, hGe⟩ : ∃ G, G = v0.heap.size := ⟨_, rfl⟩
            rw [← hv14] at Ac14 hG hnv hTv ⊢
            rw [← hGe] at hG hGl ⊢
            clear hv14 hGe
            refine wpAnyF_one (i := 1) (by kernel_rfl) rfl (fun K hK => ?_)
            go_simp
            refine (DayC_any d _ _ _ (Hda.out.below (hwx.trans (Ac14.out.mono hwx.size))) Hm.out).mono ?_
            rintro e v15 ⟨dA, dB, dc, de, rfl, hdC, hb15⟩
            replace hnv := hnv.below hb15
            replace hTv := hTv.below hb15
            replace hG := (hb15.block _ (Array.getElem?_eq_some_iff.1 hG).1).trans hG
            have Ac15 := Lib.hid (Ac14.out.trans (hb15.mono Ac14.out.size))
            refine hK.out _ _ (fun _ => Ac15.out) ?_
            clear hK K hb15
            refine wpAnyF_one (i := 6) (by kernel_rfl) rfl (fun K hK => ?_)
            go_simp
            refine (copy_any _ (natsI l) _ hnv (by have := HNl.out; omega)).mono ?_
            rintro e v16 ⟨lA, lc, rfl, hlo, hb16⟩
            have hlN := nums_of_own (K := .i64) hlo
            clear hlo
            replace hnv := hnv.below hb16
            replace hTv := hTv.below hb16
            replace hdC := hdC.below hb16
            replace hG := (hb16.block _ (Array.getElem?_eq_some_iff.1 hG).1).trans hG
            have Ac16 := Lib.hid (Ac15.out.trans (hb16.mono Ac15.out.size))
            refine hK.out _ _ (fun _ => Ac16.out) ?_
            clear hK K hb16
            refine wpAnyF_one (i := 8) (by kernel_rfl) rfl (fun K hK => ?_)
            go_simp
            refine (rows_any _ tt _ hTv (by rw [HTL.out]; exact htl0) Htr.out).mono ?_
            rintro e v17 ⟨tA, tc, tus, rfl, hto9, htr9, hb17⟩
            have hTn := rows_of_own hto9 htr9
            clear hto9 htr9
            replace hnv := hnv.below hb17
            replace hTv := hTv.below hb17
            replace hdC := hdC.below hb17
            replace hlN := hlN.below hb17
            replace hG := (hb17.block _ (Array.getElem?_eq_some_iff.1 hG).1).trans hG
            have Ac17 := Lib.hid (Ac16.out.trans (hb17.mono Ac16.out.size))
            refine hK.out _ _ (fun _ => Ac17.out) ?_
            clear hK K hb17
            refine wpAnyF_one (i := 9) (by kernel_rfl) rfl (fun K hK => ?_)
            go_simp
            refine (HDo.out _ _ _ _ _ hdC hlN hTn).mono ?_
            rintro e v18 ⟨bA, bc, rfl, _, hb18⟩
            replace hnv := hnv.below hb18
            replace hTv := hTv.below hb18
            replace hdC := hdC.below hb18
            replace hlN := hlN.below hb18
            replace hTn := hTn.below hb18
            replace hG := (hb18.block _ (Array.getElem?_eq_some_iff.1 hG).1).trans hG
            have Ac18 := Lib.hid (Ac17.out.trans (hb18.mono Ac17.out.size))
            refine hK.out _ _ (fun _ => Ac18.out) ?_
            clear hK K hb18
            refine wpAnyF_pick (by kernel_rfl) (fun _ _ _ _ _ h => h) 2 [10, 11, 12] _ _ _ (by kernel_rfl) Ac18.out ?_
            have hne2 : Nonempty (Meets (fun w' => Below w12.heap.size w12 w')) := ⟨⟨_, Ac18.out⟩⟩
            simp only [pick, List.filterMap_cons, List.filterMap_nil, List.getElem?_cons_zero, List.getElem?_cons_succ]
            repeat (change wpQuiet _ _ _ _ (_ :: _) _; go_big_quiet_step (fail))
            refine wpQuiet_nil ?_
            clear hne2
            refine wpAnyF_one (i := 14) (by kernel_rfl) rfl (fun K hK => ?_)
            have q1 := box_cells hG
            have q2 := box_frozen hG
            go_simp
            have hBs := ((((Ac18.out.setCell (p := ⟨G, 0, none⟩) hGl (.int .i64 (driveP (tabT tt) (tabT tt) ps))).setCell (p := ⟨G, 1, none⟩) hGl (.int .i64 (spreadP d (tabT tt) (tabT tt) ps))).setCell (p := ⟨G, 2, none⟩) hGl (.slice bA (ps.length - 1) bc)).setCell (p := ⟨G, 3, none⟩) hGl (.bool (obeysB d (tabT tt) (tabT tt) ps)))
            have hG2 := blk_set (blk_set (blk_set (blk_set hG (o := 0) (.int .i64 (driveP (tabT tt) (tabT tt) ps))) (o := 1) (.int .i64 (spreadP d (tabT tt) (tabT tt) ps))) (o := 2) (.slice bA (ps.length - 1) bc)) (o := 3) (.bool (obeysB d (tabT tt) (tabT tt) ps))
            refine hK.out _ _ (fun _ => hBs) ?_
            clear hK K q1 q2
            simp only [List.setIfInBounds_toArray, List.set_cons_succ, List.set_cons_zero] at hG2
            refine wpAnyF_one (i := 15) (by kernel_rfl) rfl (fun K hK => ?_)
            go_simp
            refine hK.out _ _ (fun _ => hBs) ?_
            clear hK K
            refine wpAnyF_done (by kernel_rfl) ?_ _
            refine NoPanic.normal ?_
            go_wp2_with fail
            go_meet
            case rel => exact ⟨G, _, _, rfl, rfl, hBs, hG2⟩
        case rest =>
          obtain ⟨G, dr, bv, rfl, rfl, hbx, hG⟩ := hcut
          rename World => wx
          obtain ⟨OB, hOB⟩ : ∃ b, obeysB d (tabT tt) (tabT tt) ps = b := ⟨_, rfl⟩
          obtain ⟨SP, hSP⟩ : ∃ b, spreadP d (tabT tt) (tabT tt) ps = b := ⟨_, rfl⟩
          rw [hOB] at Hli hG
          rw [hSP] at Hpi hG
          clear hOB hSP HDo
          have hbx0 := hbx
          have hwx := hw12.trans (hbx.mono hw12.size)
          have Gx := Lib.hid (box_step hbx G12.out)
          replace gc := box_cells Gx.out
          replace gf := box_frozen Gx.out
          replace hnl := hnl.below hbx
          replace hcl := cell_below hbx hcl
          have hA15 := Lib.hid (hA14.out.trans (hbx.mono hA14.out.size))
          have q := box_cells hG
          have q0 := box_frozen hG
          have HGx := Lib.hid hG
          clear hbx hbx0 hT hG
          have hobI : IS = true → OB = true := Hli.out
          have hisI : i < PL → IS = true := Hip.out
          go_upto_region 16 with (fail)
          go_cut [117] from 94 to 116 (fun zz wy => zz = .bool false ∧ wy = wx)
          case first =>
            cases IS with
            | false =>
              have hnp : ¬ i < PL := fun h => by cases hisI h
              have hnpI : ¬ (i : Int) < (PL : Int) := by omega
              clear hobI hisI
              go_wp2
              go_meet
              case rel => exact ⟨rfl, rfl⟩
            | true =>
              obtain rfl := hobI rfl
              clear hisI
              by_cases hnp : i < PL
              · have hnpI : (i : Int) < (PL : Int) := by omega
                go_wp2
                go_meet
                case rel => exact ⟨rfl, rfl⟩
              · have hnpI : ¬ (i : Int) < (PL : Int) := by omega
                go_wp2
                go_meet
                case rel => exact ⟨rfl, rfl⟩
          case rest =>
            obtain ⟨rfl, hwe9⟩ := hcut
            replace hwe9 := hwe9.symm
            subst hwe9
            clear hobI hisI q
            go_upto_region 18 with (fail)
            refine wp_region_noPanic ?_
            refine wp_region_ph [([0, 2, 3, 4, 5], [1, 6, 7]), ([8, 9, 10], [11, 12])] (fun _ => true) (fun w' => Below wx.heap.size wx w') (by kernel_rfl) (by kernel_rfl) (fun _ _ _ _ _ h => h) ?_
            have hb13 : Below wx.heap.size wx wx.drew := (Below.refl _ _).drew
            have HS13 := Lib.hid hb13
            obtain ⟨w13, hwe13⟩ : ∃ W, W = wx.drew := ⟨_, rfl⟩
            rw [← hwe13] at hb13 HS13 ⊢
            clear hwe13
            have hw13 := hwx.trans (hb13.mono hwx.size)
            have G13 := Lib.hid (box_step hb13 Gx.out)
            replace gc := box_cells G13.out
            replace gf := box_frozen G13.out
            replace hnl := hnl.below hb13
            refine wpPh_cons HS13.out (fun hne => ?_)
            have n0 := fun x : Meets (fun w' => Below wx.heap.size wx w') => cell_below x.property (box_cells Gx.out 0)
            have n1 := fun x : Meets (fun w' => Below wx.heap.size wx w') => cell_below x.property (box_cells Gx.out 1)
            have n2 := fun x : Meets (fun w' => Below wx.heap.size wx w') => cell_below x.property (box_cells Gx.out 2)
            have n3 := fun x : Meets (fun w' => Below wx.heap.size wx w') => cell_below x.property (box_cells Gx.out 3)
            have n4 := fun x : Meets (fun w' => Below wx.heap.size wx w') => cell_below x.property (box_cells Gx.out 4)
            have n5 := fun x : Meets (fun w' => Below wx.heap.size wx w') => cell_below x.property (box_cells Gx.out 5)
            have n6 := fun x : Meets (fun w' => Below wx.heap.size wx w') => cell_below x.property (box_cells Gx.out 6)
            have n7 := fun x : Meets (fun w' => Below wx.heap.size wx w') => cell_below x.property (box_cells Gx.out 7)
            have n8 := fun x : Meets (fun w' => Below wx.heap.size wx w') => cell_below x.property (box_cells Gx.out 8)
            have n9 := fun x : Meets (fun w' => Below wx.heap.size wx w') => cell_below x.property (box_cells Gx.out 9)
            have n10 := fun x : Meets (fun w' => Below wx.heap.size wx w') => cell_below x.property (hcl)
            simp only [pick, pickN, List.filterMap_cons, List.filterMap_nil, List.getElem?_cons_zero, List.getElem?_cons_succ, Option.map_some]
            repeat (change wpQuiet _ _ _ _ (_ :: _) _; go_big_quiet_step (fail))
            refine wpQuiet_nil ?_
            clear n0 n1 n2 n3 n4 n5 n6 n7 n8 n9 n10 hne
            refine wpSeqK_step (fun K hK => ?_)
            go_simp
            refine (DayC_any d _ _ _ (Hda.out.below hw13) Hm.out).mono ?_
            rintro e w14 ⟨B1x, B2x, e1x, e2x, rfl, hdx, hb14⟩
            have HS14 := Lib.hid (HS13.out.trans (hb14.mono HS13.out.size))
            have hw14 := hw13.trans (hb14.mono hw13.size)
            have G14 := Lib.hid (box_step hb14 G13.out)
            replace gc := box_cells G14.out
            replace gf := box_frozen G14.out
            replace hnl := hnl.below hb14
            refine hK.out _ _ (fun _ => HS14.out) ?_
            clear hK K
            refine wpSeqK_step (fun K hK => ?_)
            go_simp
            refine (copy_any _ (natsI l) _ hnl (by have := HNl.out; omega)).mono ?_
            rintro e w15 ⟨AC, cC, rfl, hoC, hb15⟩
            have HS15 := Lib.hid (HS14.out.trans (hb15.mono HS14.out.size))
            have hw15 := hw14.trans (hb15.mono hw14.size)
            have G15 := Lib.hid (box_step hb15 G14.out)
            replace gc := box_cells G15.out
            replace gf := box_frozen G15.out
            replace hnl := hnl.below hb15
            have HC := Lib.hid (nums_of_own (K := .i64) hoC)
            clear hoC
            replace hdx := hdx.below hb15
            refine hK.out _ _ (fun _ => HS15.out) ?_
            clear hK K
            refine wpSeqK_step (fun K hK => ?_)
            go_simp
            refine (PayS_any d _ _ _ l _ hdx Hm.out Hf.out HC.out Hld.out).mono ?_
            rintro e w16 ⟨rfl, hb16⟩
            have HS16 := Lib.hid (HS15.out.trans (hb16.mono HS15.out.size))
            have hw16 := hw15.trans (hb16.mono hw15.size)
            have G16 := Lib.hid (box_step hb16 G15.out)
            replace gc := box_cells G16.out
            replace gf := box_frozen G16.out
            replace hnl := hnl.below hb16
            rw [HIS.out]
            clear HC hdx
            refine hK.out _ _ (fun _ => HS16.out) ?_
            clear hK K
            refine wpSeqK_nil ?_
            refine wpPh_cons HS16.out (fun hne => ?_)
            simp only [pick, pickN, List.filterMap_cons, List.filterMap_nil, List.getElem?_cons_zero, List.getElem?_cons_succ, Option.map_some]
            repeat (change wpQuiet _ _ _ _ (_ :: _) _; go_big_quiet_step (fail))
            refine wpQuiet_nil ?_
            clear  hne
            refine wpSeqK_step (fun K hK => ?_)
            go_simp
            refine hK.out _ _ (fun _ => HS16.out) ?_
            clear hK K
            refine wpSeqK_step (fun K hK => ?_)
            go_simp
            refine hK.out _ _ (fun _ => HS16.out) ?_
            clear hK K
            refine wpSeqK_nil ?_
            refine wpPh_nil ?_
            refine NoPanic.normal ?_
            replace hcl := cell_below HS16.out hcl
            have hA18 := Lib.hid (hA15.out.trans (HS16.out.mono hA15.out.size))
            have hG8 := box_step HS16.out HGx.out
            have q := box_cells hG8
            have q0 := box_frozen hG8
            have hpi := Hpi.out
            obtain ⟨PY, hPY⟩ : ∃ n, payL d l = n := ⟨_, rfl⟩
            rw [hPY] at hpi ⊢
            clear hPY HGx hG8
            go_upto_region 19 with (fail)
            go_cut [154] from 129 to 153 (fun zz wy => zz = .bool false ∧ wy = w16)
            case first =>
              cases IS with
              | false =>
                go_wp2
                go_meet
                case rel => exact ⟨rfl, rfl⟩
              | true =>
                have p1 : ¬ PY < SP := by omega
                have p2 : ¬ PY < d.law.least := by omega
                go_wp2
                go_meet
                case rel => exact ⟨rfl, rfl⟩
            case rest =>
              obtain ⟨rfl, hwe9⟩ := hcut
              replace hwe9 := hwe9.symm
              subst hwe9
              clear q hpi
              generalize (if IS = true then PY else (0 : Int)) = PYv
              generalize (if IS = true then (0 : Int) else 10) = HPv
              have HnlZ := Lib.hid hnl
              have HclZ := Lib.hid hcl
              have hsn8 := Lib.hid (box_step hA18.out Hsn.out)
              have hto8 := Lib.hid (own_below Hto.out hA18.out)
              have htr8 := Lib.hid (Htr2.out.below hA18.out)
              have hbr8 := Lib.hid (Hbr.out.trans (hA18.out.mono (Nat.le_of_lt hgo)))
              clear hnl hcl
              obtain ⟨pr, hpr⟩ : ∃ pr, (bestR d).take i = pr := ⟨_, rfl⟩
              have hprl : pr.length ≤ 8 := by rw [← hpr, List.length_take, HPL.out]; omega
              rw [hpr] at hsn8
              have Hpr := Lib.hid hpr
              clear hpr
              go_wp2
              go_loopw [20] (fun s wr => ∃ k : Nat, k ≤ N ∧ s = .int .i64 (k : Int) ∧ (PL ≤ i → k = 0) ∧ Below g w6 wr ∧ wr.heap[g]? = some (.cells ((seenP NS pr l k).map (.int .i64)).toArray 3 (0, 0)) ∧ wr.ownsRow B 28 1 (.slice (some ⟨gT, 0, none⟩) (PL + 1) k4) (PL + 1) us4 ∧ RowsOwn wr B us4 (TS.map natsI)) (fun s wr => N - (intOf s).toNat)
              case atStart => exact ⟨0, by omega, rfl, fun _ => rfl, hbr8.out, by rw [seenP_zero]; exact hsn8.out, hto8.out, htr8.out⟩
              case round =>
                obtain ⟨k, hk, rfl, hk0, hbk, hsk, htk, hrk⟩ := hrel
                obtain ⟨wp, rfl⟩ : ∃ wp : World, wp = wr := ⟨_, rfl⟩
                have hbp : Below w6.heap.size w6 wp := by rw [Hg.out]; exact hbk
                have hwp := hw6.trans (hbp.mono hw6.size)
                have Gp := Lib.hid (box_step hbp G6.out)
                replace gc := box_cells Gp.out
                replace gf := box_frozen Gp.out
                have Hsk := Lib.hid hsk
                have Htk := Lib.hid htk
                have Hrk := Lib.hid hrk
                have Hbk := Lib.hid hbk
                have Hk0 := Lib.hid hk0
                obtain ⟨RA2, Rc2, hck, hnk⟩ := RowsOwn.row (l := natsI l) (k := i) htk hrk (by rw [List.getElem?_map, Hl.out]; rfl)
                rw [natsI_len, HN.out] at hck hnk
                have hgp : g < wp.heap.size := (Array.getElem?_eq_some_iff.1 hsk).1
                clear hsk htk hrk hbk hk0
                by_cases hkc : k < N ∧ i < PL
                · obtain ⟨hkN, hiP⟩ := hkc
                  have kI : (k : Int) < (N : Int) := by omega
                  have pI : (i : Int) < (PL : Int) := by omega
                  obtain ⟨sg, hsg2⟩ : ∃ sg, l[k]? = some sg := ⟨_, List.getElem?_eq_getElem (by rw [HN.out]; exact hkN)⟩
                  obtain ⟨b5, o5, y5, e5, hy5, cy5, _⟩ := hnk.at_ (k := k) (by rw [natsI_len, HN.out]; exact hkN)
                  cases e5
                  have hyv : y5 = (sg : Int) := by
                    unfold natsI at hy5
                    rw [List.getElem?_map, hsg2] at hy5
                    simpa using hy5.symm
                  subst hyv
                  have hsgN : sg < NS := by rw [← HNS.out]; exact Hld.out.lt sg (List.mem_of_getElem? hsg2)
                  obtain ⟨xs, hxs⟩ : ∃ xs, (seenP NS pr l k)[sg]? = some xs := ⟨_, List.getElem?_eq_getElem (by rw [seenP_len]; exact hsgN)⟩
                  have hxb := seenP_bd hxs
                  have hst := seenP_step pr Hld.out.rise hsg2 hxs
                  have gg := box_cells Hsk.out sg
                  have hgk2 : (((seenP NS pr l k).map (Value.int .i64)).toArray)[sg]? = some (.int .i64 xs) := by
                    rw [List.getElem?_toArray, List.getElem?_map, hxs]
                    rfl
                  rw [hgk2] at gg
                  have gf2 := box_frozen Hsk.out sg
                  have hsgI : (sg : Int) < (NS : Int) := by omega
                  have qw : IntKind.i64.wrap (xs + 1) = xs + 1 := IntWalk.i64_in _ (by omega)
                  have Hst := Lib.hid hst
                  clear hy5 hxs hst hgk2 hsg2
                  go_wp2
                  go_roundw
                  case rel =>
                    refine ⟨k + 1, by omega, by go_num, fun h => by omega, Hbk.out.setCell (p := ⟨g, sg, none⟩) (Nat.le_refl _) _, ?_, own_other Htk.out Hsk.out (by decide), Hrk.out.setN (by omega) _⟩
                    have := blk_set Hsk.out (o := sg) (.int .i64 (xs + 1))
                    rw [← Hst.out, List.map_set]
                    simpa using this
                  case measure => simp [intOf]; omega
                · have hend : seenP NS pr l k = seenL NS ((bestR d).take (i + 1)) := by
                    by_cases hiP : i < PL
                    · have hkN : k = l.length := by rw [HN.out]; omega
                      rw [hkN, seenP_full, ← Hpr.out, List.take_add_one, (HTp.out i l hiP Hl.out).1]
                      rfl
                    · have h0 := Hk0.out (by omega)
                      rw [h0, seenP_zero, ← Hpr.out, List.take_of_length_le (by rw [HPL.out]; omega), List.take_of_length_le (by rw [HPL.out]; omega)]
                  have Hend := Lib.hid hend
                  clear hend
                  by_cases hkN : k < N
                  · have kI : (k : Int) < (N : Int) := by omega
                    have pI : ¬ (i : Int) < (PL : Int) := by omega
                    cases IS with
                    | true =>
                      go_upto_region 25 with (fail)
                      refine wp_region_noPanic ?_
                      refine wp_region_pick [0, 1, 2, 3, 4, 5, 6, 7] [8, 9, 10] (fun _ => true) (fun w' => Below wp.heap.size wp w') (by kernel_rfl) (by kernel_rfl) (fun _ _ _ _ _ h => h) (Below.refl _ _).drew (fun hne => ?_)
                      have n0 := fun q : Meets (fun w' => Below wp.heap.size wp w') => cell_below q.property (gc 0)
                      have n1 := fun q : Meets (fun w' => Below wp.heap.size wp w') => cell_below q.property (gc 1)
                      have n2 := fun q : Meets (fun w' => Below wp.heap.size wp w') => cell_below q.property (gc 2)
                      have n3 := fun q : Meets (fun w' => Below wp.heap.size wp w') => cell_below q.property (gc 3)
                      have n4 := fun q : Meets (fun w' => Below wp.heap.size wp w') => cell_below q.property (gc 4)
                      have n5 := fun q : Meets (fun w' => Below wp.heap.size wp w') => cell_below q.property (gc 5)
                      have n6 := fun q : Meets (fun w' => Below wp.heap.size wp w') => cell_below q.property (gc 6)
                      have n7 := fun q : Meets (fun w' => Below wp.heap.size wp w') => cell_below q.property (gc 7)
                      have n8 := fun q : Meets (fun w' => Below wp.heap.size wp w') => cell_below q.property (gc 8)
                      have n9 := fun q : Meets (fun w' => Below wp.heap.size wp w') => cell_below q.property (gc 9)
                      have n10 := fun q : Meets (fun w' => Below wp.heap.size wp w') => cell_below q.property hck
                      simp only [pick, pickN, List.filterMap_cons, List.filterMap_nil, List.getElem?_cons_zero, List.getElem?_cons_succ, Option.map_some]
                      repeat (change wpQuiet _ _ _ _ (_ :: _) _; go_big_quiet_step (fail))
                      refine wpQuiet_nil ?_
                      clear n0 n1 n2 n3 n4 n5 n6 n7 n8 n9 n10 hne
                      have Ac0 := Lib.hid (Below.refl wp.heap.size wp).drew
                      have hnv := hnk.below Ac0.out
                      obtain ⟨V0, hV0⟩ : ∃ V, V = wp.drew := ⟨_, rfl⟩
                      rw [← hV0] at Ac0 hnv ⊢
                      clear hV0
                      refine wpSeqP_step (fun K hK => ?_)
                      go_simp
                      refine hK.out _ _ (fun _ => Ac0.out) ?_
                      clear hK K
                      have Acb := Ac0
                      refine wpSeqP_step (fun K hK => ?_)
                      go_simp
                      refine hK.out _ _ (fun _ => Acb.out) ?_
                      clear hK K
                      refine wpSeqP_step (fun K hK => ?_)
                      go_simp
                      refine hK.out _ _ (fun _ => Acb.out) ?_
                      clear hK K
                      refine wpSeqP_nil ?_
                      refine NoPanic.normal ?_
                      go_wp2
                      go_roundw
                      case rel => exact ⟨i + 1, by omega, by go_num, Hbk.out.trans (Acb.out.mono (Nat.le_of_lt hgp)), by rw [← Hend.out]; exact box_step Acb.out Hsk.out, own_below Htk.out Acb.out, Hrk.out.below Acb.out⟩
                      case measure => simp [intOf]; omega
                    | false =>
                      go_upto_region 25 with (fail)
                      refine wp_region_noPanic ?_
                      refine wp_region_pick [0, 1, 2, 3, 4, 5, 6, 7] [8, 9, 10] (fun _ => true) (fun w' => Below wp.heap.size wp w') (by kernel_rfl) (by kernel_rfl) (fun _ _ _ _ _ h => h) (Below.refl _ _).drew (fun hne => ?_)
                      have n0 := fun q : Meets (fun w' => Below wp.heap.size wp w') => cell_below q.property (gc 0)
                      have n1 := fun q : Meets (fun w' => Below wp.heap.size wp w') => cell_below q.property (gc 1)
                      have n2 := fun q : Meets (fun w' => Below wp.heap.size wp w') => cell_below q.property (gc 2)
                      have n3 := fun q : Meets (fun w' => Below wp.heap.size wp w') => cell_below q.property (gc 3)
                      have n4 := fun q : Meets (fun w' => Below wp.heap.size wp w') => cell_below q.property (gc 4)
                      have n5 := fun q : Meets (fun w' => Below wp.heap.size wp w') => cell_below q.property (gc 5)
                      have n6 := fun q : Meets (fun w' => Below wp.heap.size wp w') => cell_below q.property (gc 6)
                      have n7 := fun q : Meets (fun w' => Below wp.heap.size wp w') => cell_below q.property (gc 7)
                      have n8 := fun q : Meets (fun w' => Below wp.heap.size wp w') => cell_below q.property (gc 8)
                      have n9 := fun q : Meets (fun w' => Below wp.heap.size wp w') => cell_below q.property (gc 9)
                      have n10 := fun q : Meets (fun w' => Below wp.heap.size wp w') => cell_below q.property hck
                      simp only [pick, pickN, List.filterMap_cons, List.filterMap_nil, List.getElem?_cons_zero, List.getElem?_cons_succ, Option.map_some]
                      repeat (change wpQuiet _ _ _ _ (_ :: _) _; go_big_quiet_step (fail))
                      refine wpQuiet_nil ?_
                      clear n0 n1 n2 n3 n4 n5 n6 n7 n8 n9 n10 hne
                      have Ac0 := Lib.hid (Below.refl wp.heap.size wp).drew
                      have hnv := hnk.below Ac0.out
                      obtain ⟨V0, hV0⟩ : ∃ V, V = wp.drew := ⟨_, rfl⟩
                      rw [← hV0] at Ac0 hnv ⊢
                      clear hV0
                      refine wpSeqP_step (fun K hK => ?_)
                      go_simp
                      refine (broken_any d _ _ _ l _ (Hda.out.below (hwp.trans (Ac0.out.mono hwp.size))) Hd.out hnv Hld.out HIS.out).mono ?_
                      rintro e wq ⟨rfl, hbq⟩
                      have Acb := Lib.hid (Ac0.out.trans (hbq.mono Ac0.out.size))
                      refine hK.out _ _ (fun _ => Acb.out) ?_
                      clear hK K hbq
                      refine wpSeqP_step (fun K hK => ?_)
                      go_simp
                      refine hK.out _ _ (fun _ => Acb.out) ?_
                      clear hK K
                      refine wpSeqP_step (fun K hK => ?_)
                      go_simp
                      refine hK.out _ _ (fun _ => Acb.out) ?_
                      clear hK K
                      refine wpSeqP_nil ?_
                      refine NoPanic.normal ?_
                      go_wp2
                      go_roundw
                      case rel => exact ⟨i + 1, by omega, by go_num, Hbk.out.trans (Acb.out.mono (Nat.le_of_lt hgp)), by rw [← Hend.out]; exact box_step Acb.out Hsk.out, own_below Htk.out Acb.out, Hrk.out.below Acb.out⟩
                      case measure => simp [intOf]; omega
                  · have kI : ¬ (k : Int) < (N : Int) := by omega
                    cases IS with
                    | true =>
                      go_upto_region 25 with (fail)
                      refine wp_region_noPanic ?_
                      refine wp_region_pick [0, 1, 2, 3, 4, 5, 6, 7] [8, 9, 10] (fun _ => true) (fun w' => Below wp.heap.size wp w') (by kernel_rfl) (by kernel_rfl) (fun _ _ _ _ _ h => h) (Below.refl _ _).drew (fun hne => ?_)
                      have n0 := fun q : Meets (fun w' => Below wp.heap.size wp w') => cell_below q.property (gc 0)
                      have n1 := fun q : Meets (fun w' => Below wp.heap.size wp w') => cell_below q.property (gc 1)
                      have n2 := fun q : Meets (fun w' => Below wp.heap.size wp w') => cell_below q.property (gc 2)
                      have n3 := fun q : Meets (fun w' => Below wp.heap.size wp w') => cell_below q.property (gc 3)
                      have n4 := fun q : Meets (fun w' => Below wp.heap.size wp w') => cell_below q.property (gc 4)
                      have n5 := fun q : Meets (fun w' => Below wp.heap.size wp w') => cell_below q.property (gc 5)
                      have n6 := fun q : Meets (fun w' => Below wp.heap.size wp w') => cell_below q.property (gc 6)
                      have n7 := fun q : Meets (fun w' => Below wp.heap.size wp w') => cell_below q.property (gc 7)
                      have n8 := fun q : Meets (fun w' => Below wp.heap.size wp w') => cell_below q.property (gc 8)
                      have n9 := fun q : Meets (fun w' => Below wp.heap.size wp w') => cell_below q.property (gc 9)
                      have n10 := fun q : Meets (fun w' => Below wp.heap.size wp w') => cell_below q.property hck
                      simp only [pick, pickN, List.filterMap_cons, List.filterMap_nil, List.getElem?_cons_zero, List.getElem?_cons_succ, Option.map_some]
                      repeat (change wpQuiet _ _ _ _ (_ :: _) _; go_big_quiet_step (fail))
                      refine wpQuiet_nil ?_
                      clear n0 n1 n2 n3 n4 n5 n6 n7 n8 n9 n10 hne
                      have Ac0 := Lib.hid (Below.refl wp.heap.size wp).drew
                      have hnv := hnk.below Ac0.out
                      obtain ⟨V0, hV0⟩ : ∃ V, V = wp.drew := ⟨_, rfl⟩
                      rw [← hV0] at Ac0 hnv ⊢
                      clear hV0
                      refine wpSeqP_step (fun K hK => ?_)
                      go_simp
                      refine hK.out _ _ (fun _ => Ac0.out) ?_
                      clear hK K
                      have Acb := Ac0
                      refine wpSeqP_step (fun K hK => ?_)
                      go_simp
                      refine hK.out _ _ (fun _ => Acb.out) ?_
                      clear hK K
                      refine wpSeqP_step (fun K hK => ?_)
                      go_simp
                      refine hK.out _ _ (fun _ => Acb.out) ?_
                      clear hK K
                      refine wpSeqP_nil ?_
                      refine NoPanic.normal ?_
                      go_wp2
                      go_roundw
                      case rel => exact ⟨i + 1, by omega, by go_num, Hbk.out.trans (Acb.out.mono (Nat.le_of_lt hgp)), by rw [← Hend.out]; exact box_step Acb.out Hsk.out, own_below Htk.out Acb.out, Hrk.out.below Acb.out⟩
                      case measure => simp [intOf]; omega
                    | false =>
                      go_upto_region 25 with (fail)
                      refine wp_region_noPanic ?_
                      refine wp_region_pick [0, 1, 2, 3, 4, 5, 6, 7] [8, 9, 10] (fun _ => true) (fun w' => Below wp.heap.size wp w') (by kernel_rfl) (by kernel_rfl) (fun _ _ _ _ _ h => h) (Below.refl _ _).drew (fun hne => ?_)
                      have n0 := fun q : Meets (fun w' => Below wp.heap.size wp w') => cell_below q.property (gc 0)
                      have n1 := fun q : Meets (fun w' => Below wp.heap.size wp w') => cell_below q.property (gc 1)
                      have n2 := fun q : Meets (fun w' => Below wp.heap.size wp w') => cell_below q.property (gc 2)
                      have n3 := fun q : Meets (fun w' => Below wp.heap.size wp w') => cell_below q.property (gc 3)
                      have n4 := fun q : Meets (fun w' => Below wp.heap.size wp w') => cell_below q.property (gc 4)
                      have n5 := fun q : Meets (fun w' => Below wp.heap.size wp w') => cell_below q.property (gc 5)
                      have n6 := fun q : Meets (fun w' => Below wp.heap.size wp w') => cell_below q.property (gc 6)
                      have n7 := fun q : Meets (fun w' => Below wp.heap.size wp w') => cell_below q.property (gc 7)
                      have n8 := fun q : Meets (fun w' => Below wp.heap.size wp w') => cell_below q.property (gc 8)
                      have n9 := fun q : Meets (fun w' => Below wp.heap.size wp w') => cell_below q.property (gc 9)
                      have n10 := fun q : Meets (fun w' => Below wp.heap.size wp w') => cell_below q.property hck
                      simp only [pick, pickN, List.filterMap_cons, List.filterMap_nil, List.getElem?_cons_zero, List.getElem?_cons_succ, Option.map_some]
                      repeat (change wpQuiet _ _ _ _ (_ :: _) _; go_big_quiet_step (fail))
                      refine wpQuiet_nil ?_
                      clear n0 n1 n2 n3 n4 n5 n6 n7 n8 n9 n10 hne
                      have Ac0 := Lib.hid (Below.refl wp.heap.size wp).drew
                      have hnv := hnk.below Ac0.out
                      obtain ⟨V0, hV0⟩ : ∃ V, V = wp.drew := ⟨_, rfl⟩
                      rw [← hV0] at Ac0 hnv ⊢
                      clear hV0
                      refine wpSeqP_step (fun K hK => ?_)
                      go_simp
                      refine (broken_any d _ _ _ l _ (Hda.out.below (hwp.trans (Ac0.out.mono hwp.size))) Hd.out hnv Hld.out HIS.out).mono ?_
                      rintro e wq ⟨rfl, hbq⟩
                      have Acb := Lib.hid (Ac0.out.trans (hbq.mono Ac0.out.size))
                      refine hK.out _ _ (fun _ => Acb.out) ?_
                      clear hK K hbq
                      refine wpSeqP_step (fun K hK => ?_)
                      go_simp
                      refine hK.out _ _ (fun _ => Acb.out) ?_
                      clear hK K
                      refine wpSeqP_step (fun K hK => ?_)
                      go_simp
                      refine hK.out _ _ (fun _ => Acb.out) ?_
                      clear hK K
                      refine wpSeqP_nil ?_
                      refine NoPanic.normal ?_
                      go_wp2
                      go_roundw
                      case rel => exact ⟨i + 1, by omega, by go_num, Hbk.out.trans (Acb.out.mono (Nat.le_of_lt hgp)), by rw [← Hend.out]; exact box_step Acb.out Hsk.out, own_below Htk.out Acb.out, Hrk.out.below Acb.out⟩
                      case measure => simp [intOf]; omega
      · obtain rfl : i = PL + 1 := by omega
        have iI : ¬ ((PL + 1 : Nat) : Int) < ((PL + 1 : Nat) : Int) := by omega
        have iI2 : ¬ ((PL + 1 : Nat) : Int) < (PL : Int) + 1 := by omega
        have hsn := Hsn.out
        rw [List.take_of_length_le (by rw [HPL.out]; omega)] at hsn
        have Hsn2 := Lib.hid hsn
        clear hsn hT
        rcases HE4.out with ⟨rfl, hpl⟩ | rfl
        · go_wp2
          go_loopw [21] (fun s wr => wr = wo ∧ ∃ k : Nat, k ≤ NS ∧ s = .int .i64 (k : Int)) (fun s wr => NS - (intOf s).toNat)
          case atStart => first | exact ⟨rfl, 0, by omega, rfl⟩ | exact ⟨trivial, 0, by omega, rfl⟩
          case round =>
            obtain ⟨rfl, k, hk, rfl⟩ := hrel
            by_cases hkN : k < NS
            · have kI : (k : Int) < (NS : Int) := by omega
              have gg := box_cells Hsn2.out k
              have hgk2 : (((seenL NS (bestR d)).map (Value.int .i64)).toArray)[k]? = some (.int .i64 1) := by
                have := seen_plan hpl (s := k) (by rw [HNS.out]; exact hkN)
                rw [HNS.out] at this
                rw [List.getElem?_toArray, List.getElem?_map, this]
                rfl
              rw [hgk2] at gg
              clear hgk2
              go_wp2
              go_roundw
              case rel => first | exact ⟨trivial, k + 1, by omega, by go_num⟩ | exact ⟨rfl, k + 1, by omega, by go_num⟩ | exact ⟨k + 1, by omega, by go_num⟩
              case measure => simp [intOf]; omega
            · have kI : ¬ (k : Int) < (NS : Int) := by omega
              skip
              go_wp2_with fail
              refine (wakes_any _).mono ?_
              rintro e w7q ⟨rfl, hb7q⟩
              have hw7q := hwo.trans (hb7q.mono hwo.size)
              have G7q := Lib.hid (box_step hb7q Go.out)
              replace gc := box_cells G7q.out
              replace gf := box_frozen G7q.out
              go_wp2
              go_ret
              exact ⟨rfl, hw7q⟩
        · go_wp2
          go_loopw [21] (fun s wr => wr = wo ∧ s = .int .i64 0) (fun s wr => 0)
          case atStart => first | exact ⟨rfl, rfl⟩ | exact ⟨trivial, rfl⟩ | exact ⟨trivial, trivial⟩ | trivial
          case round =>
            obtain ⟨rfl, rfl⟩ := hrel
            have kI : (0 : Int) < (NS : Int) := by omega
            go_wp2_with fail
            refine (wakes_any _).mono ?_
            rintro e w7z ⟨rfl, hb7z⟩
            have hw7z := hwo.trans (hb7z.mono hwo.size)
            have G7z := Lib.hid (box_step hb7z Go.out)
            replace gc := box_cells G7z.out
            replace gf := box_frozen G7z.out
            go_wp2
            go_ret
            exact ⟨rfl, hw7z⟩
theorem Truth_law (d : DDay) (u z v : Value) (ws : List Int) (x : Nat) (w : World) (hda : DayAt w u z d) (hv : NumsAt .u16 w v ws) (hw : ∀ y ∈ ws, 0 ≤ y ∧ y ≤ 65535) (hx : x < 65536) :
    Calls Tryz.prog 8 #[.agg #[.int .i64 d.law.piece, .int .i64 d.law.drive, .int .i64 d.law.spread, .int .i64 d.law.brk, .int .i64 d.law.on, .int .i64 d.law.off, .int .i64 d.law.least, .int .i64 d.law.pieces, u, z], .int .u16 (x : Int), v] w (Gives w (.bool true)) := by
  cases hr : lightB d with
  | false => exact Truth_dark_a d u z v ws x w hda hv hw hx hr
  | true =>
    by_cases hs : segN d.blocks = 0
    · exact Truth_dark_b d u z v ws x w hda hv hw hx hr hs
    · exact Truth_main d u z v ws x w hda hv hw hx hr hs
end Go.Proofs.YtllobkhdeahgpaaGreat
