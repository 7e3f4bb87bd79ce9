import Derived.Test.YtllobkhdeahgpaaN5
set_option linter.unusedVariables false
set_option linter.unusedSimpArgs false
namespace Go.Proofs.Ytllobkhdeahgpaa
open Go Go.Proofs Go.RowKit

theorem region_hide {P : Program} {n : Nat} {ops : Array Oper} {b : Bool} {Q : Exit → Act → World → Prop} {a : Act} {w : World} (h : ∀ o, o = ops → (Code.region n o b).wp P Q a w) : (Code.region n ops b).wp P Q a w := h _ rfl
set_option maxRecDepth 100000 in
set_option maxHeartbeats 12800000 in
theorem Names_law (w : World) :
    Calls Try.prog 10 #[] w (Gives w (.bool true)) := by
  have hw0 : Below w.heap.size w w := Below.refl _ _
  go_enter Try.func10, Try.ntmps10
  go_wp2_with fail
  refine (monday_any _).mono ?_
  rintro e w1 ⟨A1, A2, c1, c2, rfl, dm, hb1⟩
  simp only [show mondayD.blocks.length = 2 from rfl, show mondayD.walk.length = 2 from rfl] at dm ⊢
  have hw1 := hw0.trans (hb1.mono hw0.size)
  clear hw0 hb1
  go_wp2_with fail
  have hv : NumsAt .i64 (w1.alloc (.cells #[.int .i64 0, .int .i64 2] 3)) (.slice (some ⟨w1.heap.size, 0, none⟩) 2 2) [0, 2] := nums_new w1 [0, 2] 3 (by simp [maxLen])
  have hba : Below w1.heap.size w1 (w1.alloc (.cells #[.int .i64 0, .int .i64 2] 3)) := (Below.refl _ _).alloc (Nat.le_refl _) _
  refine (pay_02 _ _ _ _ (dm.below hba) hv).mono ?_
  clear hv dm
  rintro e w2 ⟨rfl, hbz⟩
  have hb2 := hba.trans (hbz.mono hba.size)
  clear hbz hba
  have hw2 := hw1.trans (hb2.mono hw1.size)
  clear hw1 hb2
  go_wp2_with fail
  refine (monday_any _).mono ?_
  rintro e w3 ⟨A1, A2, c1, c2, rfl, dm, hb3⟩
  simp only [show mondayD.blocks.length = 2 from rfl, show mondayD.walk.length = 2 from rfl] at dm ⊢
  have hw3 := hw2.trans (hb3.mono hw2.size)
  clear hw2 hb3
  go_wp2_with fail
  have hv : NumsAt .i64 (w3.alloc (.cells #[.int .i64 3, .int .i64 4] 3)) (.slice (some ⟨w3.heap.size, 0, none⟩) 2 2) [3, 4] := nums_new w3 [3, 4] 3 (by simp [maxLen])
  have hba : Below w3.heap.size w3 (w3.alloc (.cells #[.int .i64 3, .int .i64 4] 3)) := (Below.refl _ _).alloc (Nat.le_refl _) _
  refine (pay_34 _ _ _ _ (dm.below hba) hv).mono ?_
  clear hv dm
  rintro e w4 ⟨rfl, hbz⟩
  have hb4 := hba.trans (hbz.mono hba.size)
  clear hbz hba
  have hw4 := hw3.trans (hb4.mono hw3.size)
  clear hw3 hb4
  go_wp2_with fail
  refine (monday_any _).mono ?_
  rintro e w5 ⟨A1, A2, c1, c2, rfl, dm, hb5⟩
  simp only [show mondayD.blocks.length = 2 from rfl, show mondayD.walk.length = 2 from rfl] at dm ⊢
  have hw5 := hw4.trans (hb5.mono hw4.size)
  clear hw4 hb5
  go_wp2_with fail
  obtain ⟨hba, hv, hvt⟩ : Below w5.heap.size w5 ((((w5.alloc (.cells #[.int .i64 0, .int .i64 2] 3)).alloc (.cells #[.int .i64 300, .int .i64 425, .int .i64 540, .int .i64 660] 3)).alloc (.cells #[.int .i64 400, .int .i64 505, .int .i64 610] 3)).alloc (.cells #[.slice (some ⟨w5.heap.size + 1, 0, none⟩) 4 4, .slice (some ⟨w5.heap.size + 1 + 1, 0, none⟩) 3 3] 28)) ∧ NumsAt .i64 ((((w5.alloc (.cells #[.int .i64 0, .int .i64 2] 3)).alloc (.cells #[.int .i64 300, .int .i64 425, .int .i64 540, .int .i64 660] 3)).alloc (.cells #[.int .i64 400, .int .i64 505, .int .i64 610] 3)).alloc (.cells #[.slice (some ⟨w5.heap.size + 1, 0, none⟩) 4 4, .slice (some ⟨w5.heap.size + 1 + 1, 0, none⟩) 3 3] 28)) (.slice (some ⟨w5.heap.size, 0, none⟩) 2 2) [0, 2] ∧ RowsAt ((((w5.alloc (.cells #[.int .i64 0, .int .i64 2] 3)).alloc (.cells #[.int .i64 300, .int .i64 425, .int .i64 540, .int .i64 660] 3)).alloc (.cells #[.int .i64 400, .int .i64 505, .int .i64 610] 3)).alloc (.cells #[.slice (some ⟨w5.heap.size + 1, 0, none⟩) 4 4, .slice (some ⟨w5.heap.size + 1 + 1, 0, none⟩) 3 3] 28)) (.slice (some ⟨w5.heap.size + 1 + 1 + 1, 0, none⟩) 2 2) [[300, 425, 540, 660], [400, 505, 610]] := by
    obtain ⟨V, rfl, h⟩ := lits_two w5 [0, 2] [300, 425, 540, 660] [400, 505, 610] 3 28 (by simp [maxLen]) (by simp [maxLen]) (by simp [maxLen])
    exact h
  refine (do_1 _ _ _ _ _ (dm.below hba) hv hvt).mono ?_
  clear hv hvt dm
  rintro e w6 ⟨A8, c8, rfl, hwn, hbz⟩
  have hb6 := hba.trans (hbz.mono hba.size)
  clear hbz hba
  have hw6 := hw5.trans (hb6.mono hw5.size)
  clear hw5 hb6
  go_wp2_with fail
  have hba : Below w6.heap.size w6 (w6.alloc (.cells #[.int .i64 245, .int .i64 380, .slice A8 1 c8, .bool true] 71)) := (Below.refl _ _).alloc (Nat.le_refl _) _
  have hK := heap_alloc_new w6 (.cells #[.int .i64 245, .int .i64 380, .slice A8 1 c8, .bool true] 71 (0, 0))
  refine (monday_any _).mono ?_
  rintro e w7 ⟨A1, A2, c1, c2, rfl, dm, hbz⟩
  simp only [show mondayD.blocks.length = 2 from rfl, show mondayD.walk.length = 2 from rfl] at dm ⊢
  have hb7 := hba.trans (hbz.mono hba.size)
  have K7 := Lib.hid (box_step hbz hK)
  have kc := box_cells K7.out
  have kf := box_frozen K7.out
  clear hba hbz hK
  generalize hgK : w6.heap.size = gK at K7 kc kf ⊢
  have hgK2 : w.heap.size ≤ gK := by rw [← hgK]; exact hw6.size
  clear hgK
  have hw7 := hw6.trans (hb7.mono hw6.size)
  replace hwn := hwn.below hb7
  clear hw6 hb7
  go_wp2_with fail
  refine (best_M _ _ _ dm).mono ?_
  rintro e w8 ⟨A7, c7, rfl, hp, hb8⟩
  clear dm
  have hw8 := hw7.trans (hb8.mono hw7.size)
  have K8 := Lib.hid (box_step hb8 K7.out)
  replace kc := box_cells K8.out
  replace kf := box_frozen K8.out
  clear K7
  replace hwn := hwn.below hb8
  clear hw7 hb8
  obtain ⟨pb, po, B0, B1, B2, e0, e1, e2, rfl, hc3, hc4, k0, k1, k2, n0, n1, n2⟩ := rows_three hp
  simp only [List.length_cons, List.length_nil, Nat.zero_add, Nat.reduceAdd] at k0 k1 k2 n0 n1 n2
  go_wp2_with fail
  refine (monday_any _).mono ?_
  rintro e w9 ⟨A1, A2, c1, c2, rfl, dm, hb9⟩
  simp only [show mondayD.blocks.length = 2 from rfl, show mondayD.walk.length = 2 from rfl] at dm ⊢
  have hw9 := hw8.trans (hb9.mono hw8.size)
  have K9 := Lib.hid (box_step hb9 K8.out)
  replace kc := box_cells K9.out
  replace kf := box_frozen K9.out
  clear K8
  replace hwn := hwn.below hb9
  replace hp := hp.below hb9
  replace n0 := n0.below hb9
  replace n1 := n1.below hb9
  replace n2 := n2.below hb9
  replace k0 := cell_below hb9 k0
  replace k1 := cell_below hb9 k1
  replace k2 := cell_below hb9 k2
  clear hw8 hb9
  go_upto_region 7 with (fail)
  refine wp_name (fun V => Below w9.heap.size w9 V ∧ V.heap[w9.heap.size]? = some (.cells #[.int .i64 shortL.piece, .int .i64 shortL.drive, .int .i64 shortL.spread, .int .i64 shortL.brk, .int .i64 shortL.on, .int .i64 shortL.off, .int .i64 shortL.least, .int .i64 shortL.pieces, .slice A1 2 c1, .slice A2 2 c2] 39 (0, 0))) ⟨(Below.refl _ _).alloc (Nat.le_refl _) _, heap_alloc_new _ _⟩ (fun wv hW => ?_)
  obtain ⟨hbv, hS⟩ := hW
  obtain ⟨w10, rfl⟩ : ∃ V : World, V = wv := ⟨_, rfl⟩
  have hb10 := hbv
  have S10 := Lib.hid hS
  have sc := box_cells S10.out
  have sf := box_frozen S10.out
  have ds : DayAt w10 (.slice A1 2 c1) (.slice A2 2 c2) shortD := ⟨(dm.below hbv).blocks, (dm.below hbv).walk⟩
  clear hbv hS dm
  generalize hgS : w9.heap.size = gS at S10 sc sf ⊢
  have hgS2 : w.heap.size ≤ gS := by rw [← hgS]; exact hw9.size
  clear hgS
  have hw10 := hw9.trans (hb10.mono hw9.size)
  have K10 := Lib.hid (box_step hb10 K9.out)
  replace kc := box_cells K10.out
  replace kf := box_frozen K10.out
  clear K9
  replace hwn := hwn.below hb10
  replace hp := hp.below hb10
  replace n0 := n0.below hb10
  replace n1 := n1.below hb10
  replace n2 := n2.below hb10
  replace k0 := cell_below hb10 k0
  replace k1 := cell_below hb10 k1
  replace k2 := cell_below hb10 k2
  clear hw9 hb10
  go_wp2_with fail
  refine (barred_S _ _ _ ds).mono ?_
  rintro e w11 ⟨AB, cB, rfl, hbar, hb11⟩
  have hw11 := hw10.trans (hb11.mono hw10.size)
  have K11 := Lib.hid (box_step hb11 K10.out)
  replace kc := box_cells K11.out
  replace kf := box_frozen K11.out
  clear K10
  have S11 := Lib.hid (box_step hb11 S10.out)
  replace sc := box_cells S11.out
  replace sf := box_frozen S11.out
  clear S10
  replace hwn := hwn.below hb11
  replace hp := hp.below hb11
  replace n0 := n0.below hb11
  replace n1 := n1.below hb11
  replace n2 := n2.below hb11
  replace ds := ds.below hb11
  replace k0 := cell_below hb11 k0
  replace k1 := cell_below hb11 k1
  replace k2 := cell_below hb11 k2
  clear hw10 hb11
  go_wp2_with fail
  refine wp_region_noPanic ?_
  refine region_is lops (by kernel_rfl) (fun e => ?_)
  refine wp_region_ph [([0, 1, 2, 3, 4, 5, 6, 7, 8, 9, 10, 11, 12, 13, 14, 15, 16, 17, 18, 19, 20, 21, 22, 23, 24, 25, 26, 27, 28, 29, 30], [31, 32]), ([33, 34, 35, 36, 37, 38, 39, 40, 41, 42, 43, 44, 45, 46, 47, 48, 49, 50, 51, 52], [53, 54]), ([55, 56, 57, 58, 59, 60], [61, 62]), ([63, 64, 65, 66, 67, 68], [69, 70]), ([71, 72, 73, 74, 75, 76, 77, 78], [79, 80]), ([81, 82, 83, 85], [84, 86]), ([87, 88, 89, 91, 92], [90, 93, 94])] kpT (fun w' => Below w11.heap.size w11 w') (by kernel_rfl) ph_all (fun _ _ _ _ _ h => h) ?_
  simp only [List.append] at e
  generalize lops = ops at e ⊢
  have o2 := (congrArg (fun o : Array Oper => o[2]?) e).symm
  simp only [List.getElem?_toArray, List.getElem?_cons_zero, List.getElem?_cons_succ] at o2
  have o6 := (congrArg (fun o : Array Oper => o[6]?) e).symm
  simp only [List.getElem?_toArray, List.getElem?_cons_zero, List.getElem?_cons_succ] at o6
  have o10 := (congrArg (fun o : Array Oper => o[10]?) e).symm
  simp only [List.getElem?_toArray, List.getElem?_cons_zero, List.getElem?_cons_succ] at o10
  have o14 := (congrArg (fun o : Array Oper => o[14]?) e).symm
  simp only [List.getElem?_toArray, List.getElem?_cons_zero, List.getElem?_cons_succ] at o14
  have o18 := (congrArg (fun o : Array Oper => o[18]?) e).symm
  simp only [List.getElem?_toArray, List.getElem?_cons_zero, List.getElem?_cons_succ] at o18
  have o23 := (congrArg (fun o : Array Oper => o[23]?) e).symm
  simp only [List.getElem?_toArray, List.getElem?_cons_zero, List.getElem?_cons_succ] at o23
  have o28 := (congrArg (fun o : Array Oper => o[28]?) e).symm
  simp only [List.getElem?_toArray, List.getElem?_cons_zero, List.getElem?_cons_succ] at o28
  have o35 := (congrArg (fun o : Array Oper => o[35]?) e).symm
  simp only [List.getElem?_toArray, List.getElem?_cons_zero, List.getElem?_cons_succ] at o35
  have o40 := (congrArg (fun o : Array Oper => o[40]?) e).symm
  simp only [List.getElem?_toArray, List.getElem?_cons_zero, List.getElem?_cons_succ] at o40
  have o44 := (congrArg (fun o : Array Oper => o[44]?) e).symm
  simp only [List.getElem?_toArray, List.getElem?_cons_zero, List.getElem?_cons_succ] at o44
  have o49 := (congrArg (fun o : Array Oper => o[49]?) e).symm
  simp only [List.getElem?_toArray, List.getElem?_cons_zero, List.getElem?_cons_succ] at o49
  have o57 := (congrArg (fun o : Array Oper => o[57]?) e).symm
  simp only [List.getElem?_toArray, List.getElem?_cons_zero, List.getElem?_cons_succ] at o57
  have o65 := (congrArg (fun o : Array Oper => o[65]?) e).symm
  simp only [List.getElem?_toArray, List.getElem?_cons_zero, List.getElem?_cons_succ] at o65
  have o73 := (congrArg (fun o : Array Oper => o[73]?) e).symm
  simp only [List.getElem?_toArray, List.getElem?_cons_zero, List.getElem?_cons_succ] at o73
  have o77 := (congrArg (fun o : Array Oper => o[77]?) e).symm
  simp only [List.getElem?_toArray, List.getElem?_cons_zero, List.getElem?_cons_succ] at o77
  have o83 := (congrArg (fun o : Array Oper => o[83]?) e).symm
  simp only [List.getElem?_toArray, List.getElem?_cons_zero, List.getElem?_cons_succ] at o83
  have o89 := (congrArg (fun o : Array Oper => o[89]?) e).symm
  simp only [List.getElem?_toArray, List.getElem?_cons_zero, List.getElem?_cons_succ] at o89
  obtain ⟨p0, hp0⟩ : ∃ p, p = pick ops.toArray.toList [0, 1, 2, 3, 4, 5, 6, 7, 8, 9, 10, 11, 12, 13, 14, 15, 16, 17, 18, 19, 20, 21, 22, 23, 24, 25, 26, 27, 28, 29, 30] := ⟨_, rfl⟩
  obtain ⟨q0, hq0⟩ : ∃ p, p = pickN ops.toArray.toList [31, 32] := ⟨_, rfl⟩
  have hr0 := hp0
  have hs0 := hq0
  rw [← e] at hr0 hs0
  simp only [List.append, pick, pickN, List.filterMap_cons, List.filterMap_nil, List.getElem?_cons_zero, List.getElem?_cons_succ, Option.map_some] at hr0 hs0
  have P0 := Lib.hid (hp0.symm.trans hr0)
  have Q0 := Lib.hid (hq0.symm.trans hs0)
  clear hp0 hq0 hr0 hs0
  clear p0 q0
  obtain ⟨p1, hp1⟩ : ∃ p, p = pick ops.toArray.toList [33, 34, 35, 36, 37, 38, 39, 40, 41, 42, 43, 44, 45, 46, 47, 48, 49, 50, 51, 52] := ⟨_, rfl⟩
  obtain ⟨q1, hq1⟩ : ∃ p, p = pickN ops.toArray.toList [53, 54] := ⟨_, rfl⟩
  have hr1 := hp1
  have hs1 := hq1
  rw [← e] at hr1 hs1
  simp only [List.append, pick, pickN, List.filterMap_cons, List.filterMap_nil, List.getElem?_cons_zero, List.getElem?_cons_succ, Option.map_some] at hr1 hs1
  have P1 := Lib.hid (hp1.symm.trans hr1)
  have Q1 := Lib.hid (hq1.symm.trans hs1)
  clear hp1 hq1 hr1 hs1
  clear p1 q1
  obtain ⟨p2, hp2⟩ : ∃ p, p = pick ops.toArray.toList [55, 56, 57, 58, 59, 60] := ⟨_, rfl⟩
  obtain ⟨q2, hq2⟩ : ∃ p, p = pickN ops.toArray.toList [61, 62] := ⟨_, rfl⟩
  have hr2 := hp2
  have hs2 := hq2
  rw [← e] at hr2 hs2
  simp only [List.append, pick, pickN, List.filterMap_cons, List.filterMap_nil, List.getElem?_cons_zero, List.getElem?_cons_succ, Option.map_some] at hr2 hs2
  have P2 := Lib.hid (hp2.symm.trans hr2)
  have Q2 := Lib.hid (hq2.symm.trans hs2)
  clear hp2 hq2 hr2 hs2
  clear p2 q2
  obtain ⟨p3, hp3⟩ : ∃ p, p = pick ops.toArray.toList [63, 64, 65, 66, 67, 68] := ⟨_, rfl⟩
  obtain ⟨q3, hq3⟩ : ∃ p, p = pickN ops.toArray.toList [69, 70] := ⟨_, rfl⟩
  have hr3 := hp3
  have hs3 := hq3
  rw [← e] at hr3 hs3
  simp only [List.append, pick, pickN, List.filterMap_cons, List.filterMap_nil, List.getElem?_cons_zero, List.getElem?_cons_succ, Option.map_some] at hr3 hs3
  have P3 := Lib.hid (hp3.symm.trans hr3)
  have Q3 := Lib.hid (hq3.symm.trans hs3)
  clear hp3 hq3 hr3 hs3
  clear p3 q3
  obtain ⟨p4, hp4⟩ : ∃ p, p = pick ops.toArray.toList [71, 72, 73, 74, 75, 76, 77, 78] := ⟨_, rfl⟩
  obtain ⟨q4, hq4⟩ : ∃ p, p = pickN ops.toArray.toList [79, 80] := ⟨_, rfl⟩
  have hr4 := hp4
  have hs4 := hq4
  rw [← e] at hr4 hs4
  simp only [List.append, pick, pickN, List.filterMap_cons, List.filterMap_nil, List.getElem?_cons_zero, List.getElem?_cons_succ, Option.map_some] at hr4 hs4
  have P4 := Lib.hid (hp4.symm.trans hr4)
  have Q4 := Lib.hid (hq4.symm.trans hs4)
  clear hp4 hq4 hr4 hs4
  clear p4 q4
  obtain ⟨p5, hp5⟩ : ∃ p, p = pick ops.toArray.toList [81, 82, 83, 85] := ⟨_, rfl⟩
  obtain ⟨q5, hq5⟩ : ∃ p, p = pickN ops.toArray.toList [84, 86] := ⟨_, rfl⟩
  have hr5 := hp5
  have hs5 := hq5
  rw [← e] at hr5 hs5
  simp only [List.append, pick, pickN, List.filterMap_cons, List.filterMap_nil, List.getElem?_cons_zero, List.getElem?_cons_succ, Option.map_some] at hr5 hs5
  have P5 := Lib.hid (hp5.symm.trans hr5)
  have Q5 := Lib.hid (hq5.symm.trans hs5)
  clear hp5 hq5 hr5 hs5
  clear p5 q5
  obtain ⟨p6, hp6⟩ : ∃ p, p = pick ops.toArray.toList [87, 88, 89, 91, 92] := ⟨_, rfl⟩
  obtain ⟨q6, hq6⟩ : ∃ p, p = pickN ops.toArray.toList [90, 93, 94] := ⟨_, rfl⟩
  have hr6 := hp6
  have hs6 := hq6
  rw [← e] at hr6 hs6
  simp only [List.append, pick, pickN, List.filterMap_cons, List.filterMap_nil, List.getElem?_cons_zero, List.getElem?_cons_succ, Option.map_some] at hr6 hs6
  have P6 := Lib.hid (hp6.symm.trans hr6)
  have Q6 := Lib.hid (hq6.symm.trans hs6)
  clear hp6 hq6 hr6 hs6
  clear p6 q6
  clear e
  have KB := K11
  have kb0 := k0
  have kb1 := k1
  have kb2 := k2
  have hb12 : Below w11.heap.size w11 w11.drew := (Below.refl _ _).drew
  have HS12 := Lib.hid hb12
  obtain ⟨w12, hwe12⟩ : ∃ W, W = w11.drew := ⟨_, rfl⟩
  rw [← hwe12] at hb12 HS12 ⊢
  clear hwe12
  have hw12 := hw11.trans (hb12.mono hw11.size)
  have K12 := Lib.hid (box_step hb12 K11.out)
  replace kc := box_cells K12.out
  replace kf := box_frozen K12.out
  clear K11
  have S12 := Lib.hid (box_step hb12 S11.out)
  replace sc := box_cells S12.out
  replace sf := box_frozen S12.out
  clear S11
  replace hwn := hwn.below hb12
  replace hp := hp.below hb12
  replace n0 := n0.below hb12
  replace n1 := n1.below hb12
  replace n2 := n2.below hb12
  replace ds := ds.below hb12
  replace hbar := hbar.below hb12
  replace k0 := cell_below hb12 k0
  replace k1 := cell_below hb12 k1
  replace k2 := cell_below hb12 k2
  clear hw11 hb12
  refine wpPh_cons HS12.out (fun hne => ?_)
  have f0 := fun x : Meets (fun w' => Below w11.heap.size w11 w') => cell_below x.property (box_cells KB.out 0)
  have f1 := fun x : Meets (fun w' => Below w11.heap.size w11 w') => cell_below x.property (box_cells KB.out 1)
  have f2 := fun x : Meets (fun w' => Below w11.heap.size w11 w') => cell_below x.property (box_cells KB.out 2)
  have f3 := fun x : Meets (fun w' => Below w11.heap.size w11 w') => cell_below x.property (box_cells KB.out 3)
  rw [P0.out, Q0.out]
  clear P0 Q0
  refine BigFrame.wpQuiet_want (rfl) (fun K hK => ?_)
  go_big_quiet_op
  refine hK _ ?_
  clear hK K
  refine BigFrame.wpQuiet_want (rfl) (fun K hK => ?_)
  go_big_quiet_op
  refine hK _ ?_
  clear hK K
  refine BigFrame.wpQuiet_want (rfl) (fun K hK => ?_)
  go_big_quiet_op
  refine hK _ ?_
  clear hK K
  refine BigFrame.wpQuiet_want (want_of rfl o2 rfl rfl) (fun K hK => ?_)
  go_big_quiet_op
  refine hK _ ?_
  clear hK K
  refine BigFrame.wpQuiet_want (want_of rfl o2 rfl rfl) (fun K hK => ?_)
  go_big_quiet_op
  refine hK _ ?_
  clear hK K
  refine BigFrame.wpQuiet_want (rfl) (fun K hK => ?_)
  go_big_quiet_op
  refine hK _ ?_
  clear hK K
  refine BigFrame.wpQuiet_want (rfl) (fun K hK => ?_)
  go_big_quiet_op
  refine hK _ ?_
  clear hK K
  refine BigFrame.wpQuiet_want (want_of rfl o6 rfl rfl) (fun K hK => ?_)
  go_big_quiet_op
  refine hK _ ?_
  clear hK K
  refine BigFrame.wpQuiet_want (want_of rfl o6 rfl rfl) (fun K hK => ?_)
  go_big_quiet_op
  refine hK _ ?_
  clear hK K
  refine BigFrame.wpQuiet_want (rfl) (fun K hK => ?_)
  go_big_quiet_op
  refine hK _ ?_
  clear hK K
  refine BigFrame.wpQuiet_want (rfl) (fun K hK => ?_)
  go_big_quiet_op
  refine hK _ ?_
  clear hK K
  refine BigFrame.wpQuiet_want (want_of rfl o10 rfl rfl) (fun K hK => ?_)
  go_big_quiet_op
  refine hK _ ?_
  clear hK K
  refine BigFrame.wpQuiet_want (want_of rfl o10 rfl rfl) (fun K hK => ?_)
  go_big_quiet_op
  refine hK _ ?_
  clear hK K
  refine BigFrame.wpQuiet_want (rfl) (fun K hK => ?_)
  go_big_quiet_op
  refine hK _ ?_
  clear hK K
  refine BigFrame.wpQuiet_want (rfl) (fun K hK => ?_)
  go_big_quiet_op
  refine hK _ ?_
  clear hK K
  refine BigFrame.wpQuiet_want (want_of rfl o14 rfl rfl) (fun K hK => ?_)
  go_big_quiet_op
  refine hK _ ?_
  clear hK K
  refine BigFrame.wpQuiet_want (want_of rfl o14 rfl rfl) (fun K hK => ?_)
  go_big_quiet_op
  refine hK _ ?_
  clear hK K
  refine BigFrame.wpQuiet_want (rfl) (fun K hK => ?_)
  go_big_quiet_op
  refine hK _ ?_
  clear hK K
  refine BigFrame.wpQuiet_want (rfl) (fun K hK => ?_)
  go_big_quiet_op
  refine hK _ ?_
  clear hK K
  refine BigFrame.wpQuiet_want (want_of rfl o18 rfl rfl) (fun K hK => ?_)
  go_big_quiet_op
  refine hK _ ?_
  clear hK K
  refine BigFrame.wpQuiet_want (want_of rfl o18 rfl rfl) (fun K hK => ?_)
  go_big_quiet_op
  refine hK _ ?_
  clear hK K
  refine BigFrame.wpQuiet_want (want_of rfl o18 rfl rfl) (fun K hK => ?_)
  go_big_quiet_op
  refine hK _ ?_
  clear hK K
  refine BigFrame.wpQuiet_want (rfl) (fun K hK => ?_)
  go_big_quiet_op
  refine hK _ ?_
  clear hK K
  refine BigFrame.wpQuiet_want (rfl) (fun K hK => ?_)
  go_big_quiet_op
  refine hK _ ?_
  clear hK K
  refine BigFrame.wpQuiet_want (want_of rfl o23 rfl rfl) (fun K hK => ?_)
  go_big_quiet_op
  refine hK _ ?_
  clear hK K
  refine BigFrame.wpQuiet_want (want_of rfl o23 rfl rfl) (fun K hK => ?_)
  go_big_quiet_op
  refine hK _ ?_
  clear hK K
  refine BigFrame.wpQuiet_want (want_of rfl o23 rfl rfl) (fun K hK => ?_)
  go_big_quiet_op
  refine hK _ ?_
  clear hK K
  refine BigFrame.wpQuiet_want (rfl) (fun K hK => ?_)
  go_big_quiet_op
  refine hK _ ?_
  clear hK K
  refine BigFrame.wpQuiet_want (rfl) (fun K hK => ?_)
  go_big_quiet_op
  refine hK _ ?_
  clear hK K
  refine BigFrame.wpQuiet_want (want_of rfl o28 rfl rfl) (fun K hK => ?_)
  go_big_quiet_op
  refine hK _ ?_
  clear hK K
  refine BigFrame.wpQuiet_want (want_of rfl o28 rfl rfl) (fun K hK => ?_)
  go_big_quiet_op
  refine hK _ ?_
  clear hK K
  refine wpQuiet_nil ?_
  clear f0 f1 f2 f3 hne
  refine wpSeqK_step (fun K hK => ?_)
  go_simp
  have hv := nums_new w12 [115] 3 (by simp [maxLen])
  have hb13 : Below w12.heap.size w12 (w12.alloc (.cells #[.int .i64 115] 3)) := (Below.refl _ _).alloc (Nat.le_refl _) _
  simp only [List.map_cons, List.map_nil, List.length_cons, List.length_nil, Nat.zero_add, Nat.reduceAdd] at hv
  obtain ⟨w13, hwe⟩ : ∃ W, W = w12.alloc (.cells #[.int .i64 115] 3) := ⟨_, rfl⟩
  rw [← hwe] at hv hb13 ⊢
  clear hwe
  have HS13 := Lib.hid (HS12.out.trans (hb13.mono HS12.out.size))
  have hw13 := hw12.trans (hb13.mono hw12.size)
  have K13 := Lib.hid (box_step hb13 K12.out)
  replace kc := box_cells K13.out
  replace kf := box_frozen K13.out
  clear K12
  have S13 := Lib.hid (box_step hb13 S12.out)
  replace sc := box_cells S13.out
  replace sf := box_frozen S13.out
  clear S12
  replace hwn := hwn.below hb13
  replace hp := hp.below hb13
  replace n0 := n0.below hb13
  replace n1 := n1.below hb13
  replace n2 := n2.below hb13
  replace ds := ds.below hb13
  replace hbar := hbar.below hb13
  replace k0 := cell_below hb13 k0
  replace k1 := cell_below hb13 k1
  replace k2 := cell_below hb13 k2
  clear hw12 hb13
  refine hK.out _ _ (fun _ => HS13.out) ?_
  clear hK K
  refine wpSeqK_step (fun K hK => ?_)
  go_simp
  refine (Gives.to (show decide (([115] : List Int) = [115]) = true from by decide) (ints_any _ _ _ _ _ hwn hv)).mono ?_
  rintro e w14 ⟨rfl, hb14⟩
  have HS14 := Lib.hid (HS13.out.trans (hb14.mono HS13.out.size))
  have hw14 := hw13.trans (hb14.mono hw13.size)
  have K14 := Lib.hid (box_step hb14 K13.out)
  replace kc := box_cells K14.out
  replace kf := box_frozen K14.out
  clear K13
  have S14 := Lib.hid (box_step hb14 S13.out)
  replace sc := box_cells S14.out
  replace sf := box_frozen S14.out
  clear S13
  replace hwn := hwn.below hb14
  replace hp := hp.below hb14
  replace n0 := n0.below hb14
  replace n1 := n1.below hb14
  replace n2 := n2.below hb14
  replace ds := ds.below hb14
  replace hbar := hbar.below hb14
  replace k0 := cell_below hb14 k0
  replace k1 := cell_below hb14 k1
  replace k2 := cell_below hb14 k2
  clear hw13 hb14
  clear hv
  refine hK.out _ _ (fun _ => HS14.out) ?_
  clear hK K
  refine wpSeqK_nil ?_
  refine wpPh_cons HS14.out (fun hne => ?_)
  have f0 := fun x : Meets (fun w' => Below w11.heap.size w11 w') => cell_below x.property (box_cells KB.out 0)
  have f1 := fun x : Meets (fun w' => Below w11.heap.size w11 w') => cell_below x.property (box_cells KB.out 1)
  have f2 := fun x : Meets (fun w' => Below w11.heap.size w11 w') => cell_below x.property (box_cells KB.out 2)
  have f3 := fun x : Meets (fun w' => Below w11.heap.size w11 w') => cell_below x.property (box_cells KB.out 3)
  have f4 := fun x : Meets (fun w' => Below w11.heap.size w11 w') => cell_below x.property (kb0)
  rw [P1.out, Q1.out]
  clear P1 Q1
  refine BigFrame.wpQuiet_want (want_of rfl o28 rfl rfl) (fun K hK => ?_)
  go_big_quiet_op
  refine hK _ ?_
  clear hK K
  refine BigFrame.wpQuiet_want (rfl) (fun K hK => ?_)
  go_big_quiet_op
  refine hK _ ?_
  clear hK K
  refine BigFrame.wpQuiet_want (rfl) (fun K hK => ?_)
  go_big_quiet_op
  refine hK _ ?_
  clear hK K
  refine BigFrame.wpQuiet_want (want_of rfl o35 rfl rfl) (fun K hK => ?_)
  go_big_quiet_op
  refine hK _ ?_
  clear hK K
  refine BigFrame.wpQuiet_want (want_of rfl o35 rfl rfl) (fun K hK => ?_)
  go_big_quiet_op
  refine hK _ ?_
  clear hK K
  refine BigFrame.wpQuiet_want (want_of rfl o35 rfl rfl) (fun K hK => ?_)
  go_big_quiet_op
  refine hK _ ?_
  clear hK K
  refine BigFrame.wpQuiet_want (rfl) (fun K hK => ?_)
  go_big_quiet_op
  refine hK _ ?_
  clear hK K
  refine BigFrame.wpQuiet_want (rfl) (fun K hK => ?_)
  go_big_quiet_op
  refine hK _ ?_
  clear hK K
  refine BigFrame.wpQuiet_want (want_of rfl o40 rfl rfl) (fun K hK => ?_)
  go_big_quiet_op
  refine hK _ ?_
  clear hK K
  refine BigFrame.wpQuiet_want (want_of rfl o40 rfl rfl) (fun K hK => ?_)
  go_big_quiet_op
  refine hK _ ?_
  clear hK K
  refine BigFrame.wpQuiet_want (rfl) (fun K hK => ?_)
  go_big_quiet_op
  refine hK _ ?_
  clear hK K
  refine BigFrame.wpQuiet_want (rfl) (fun K hK => ?_)
  go_big_quiet_op
  refine hK _ ?_
  clear hK K
  refine BigFrame.wpQuiet_want (want_of rfl o44 rfl rfl) (fun K hK => ?_)
  go_big_quiet_op
  refine hK _ ?_
  clear hK K
  refine BigFrame.wpQuiet_want (want_of rfl o44 rfl rfl) (fun K hK => ?_)
  go_big_quiet_op
  refine hK _ ?_
  clear hK K
  refine BigFrame.wpQuiet_want (want_of rfl o44 rfl rfl) (fun K hK => ?_)
  go_big_quiet_op
  refine hK _ ?_
  clear hK K
  refine BigFrame.wpQuiet_want (rfl) (fun K hK => ?_)
  go_big_quiet_op
  refine hK _ ?_
  clear hK K
  refine BigFrame.wpQuiet_want (rfl) (fun K hK => ?_)
  go_big_quiet_op
  refine hK _ ?_
  clear hK K
  refine BigFrame.wpQuiet_want (want_of rfl o49 rfl rfl) (fun K hK => ?_)
  go_big_quiet_op
  refine hK _ ?_
  clear hK K
  refine BigFrame.wpQuiet_want (want_of rfl o49 rfl rfl) (fun K hK => ?_)
  go_big_quiet_op
  refine hK _ ?_
  clear hK K
  refine BigFrame.wpQuiet_want (want_of rfl o49 rfl rfl) (fun K hK => ?_)
  go_big_quiet_op
  refine hK _ ?_
  clear hK K
  refine wpQuiet_nil ?_
  clear f0 f1 f2 f3 f4 hne
  refine wpSeqK_step (fun K hK => ?_)
  go_simp
  have hv := nums_new w14 [0, 2] 3 (by simp [maxLen])
  have hb15 : Below w14.heap.size w14 (w14.alloc (.cells #[.int .i64 0, .int .i64 2] 3)) := (Below.refl _ _).alloc (Nat.le_refl _) _
  simp only [List.map_cons, List.map_nil, List.length_cons, List.length_nil, Nat.zero_add, Nat.reduceAdd] at hv
  obtain ⟨w15, hwe⟩ : ∃ W, W = w14.alloc (.cells #[.int .i64 0, .int .i64 2] 3) := ⟨_, rfl⟩
  rw [← hwe] at hv hb15 ⊢
  clear hwe
  have HS15 := Lib.hid (HS14.out.trans (hb15.mono HS14.out.size))
  have hw15 := hw14.trans (hb15.mono hw14.size)
  have K15 := Lib.hid (box_step hb15 K14.out)
  replace kc := box_cells K15.out
  replace kf := box_frozen K15.out
  clear K14
  have S15 := Lib.hid (box_step hb15 S14.out)
  replace sc := box_cells S15.out
  replace sf := box_frozen S15.out
  clear S14
  replace hwn := hwn.below hb15
  replace hp := hp.below hb15
  replace n0 := n0.below hb15
  replace n1 := n1.below hb15
  replace n2 := n2.below hb15
  replace ds := ds.below hb15
  replace hbar := hbar.below hb15
  replace k0 := cell_below hb15 k0
  replace k1 := cell_below hb15 k1
  replace k2 := cell_below hb15 k2
  clear hw14 hb15
  refine hK.out _ _ (fun _ => HS15.out) ?_
  clear hK K
  refine wpSeqK_step (fun K hK => ?_)
  go_simp
  refine (Gives.to (show decide (([0, 2] : List Int) = [0, 2]) = true from by decide) (ints_any _ _ _ _ _ n0 hv)).mono ?_
  rintro e w16 ⟨rfl, hb16⟩
  have HS16 := Lib.hid (HS15.out.trans (hb16.mono HS15.out.size))
  have hw16 := hw15.trans (hb16.mono hw15.size)
  have K16 := Lib.hid (box_step hb16 K15.out)
  replace kc := box_cells K16.out
  replace kf := box_frozen K16.out
  clear K15
  have S16 := Lib.hid (box_step hb16 S15.out)
  replace sc := box_cells S16.out
  replace sf := box_frozen S16.out
  clear S15
  replace hwn := hwn.below hb16
  replace hp := hp.below hb16
  replace n0 := n0.below hb16
  replace n1 := n1.below hb16
  replace n2 := n2.below hb16
  replace ds := ds.below hb16
  replace hbar := hbar.below hb16
  replace k0 := cell_below hb16 k0
  replace k1 := cell_below hb16 k1
  replace k2 := cell_below hb16 k2
  clear hw15 hb16
  clear hv
  refine hK.out _ _ (fun _ => HS16.out) ?_
  clear hK K
  refine wpSeqK_nil ?_
  refine wpPh_cons HS16.out (fun hne => ?_)
  have f0 := fun x : Meets (fun w' => Below w11.heap.size w11 w') => cell_below x.property (kb1)
  rw [P2.out, Q2.out]
  clear P2 Q2
  refine BigFrame.wpQuiet_want (want_of rfl o49 rfl rfl) (fun K hK => ?_)
  go_big_quiet_op
  refine hK _ ?_
  clear hK K
  refine BigFrame.wpQuiet_want (rfl) (fun K hK => ?_)
  go_big_quiet_op
  refine hK _ ?_
  clear hK K
  refine BigFrame.wpQuiet_want (rfl) (fun K hK => ?_)
  go_big_quiet_op
  refine hK _ ?_
  clear hK K
  refine BigFrame.wpQuiet_want (want_of rfl o57 rfl rfl) (fun K hK => ?_)
  go_big_quiet_op
  refine hK _ ?_
  clear hK K
  refine BigFrame.wpQuiet_want (want_of rfl o57 rfl rfl) (fun K hK => ?_)
  go_big_quiet_op
  refine hK _ ?_
  clear hK K
  refine BigFrame.wpQuiet_want (want_of rfl o57 rfl rfl) (fun K hK => ?_)
  go_big_quiet_op
  refine hK _ ?_
  clear hK K
  refine wpQuiet_nil ?_
  clear f0 hne
  refine wpSeqK_step (fun K hK => ?_)
  go_simp
  have hv := nums_new w16 [1] 3 (by simp [maxLen])
  have hb17 : Below w16.heap.size w16 (w16.alloc (.cells #[.int .i64 1] 3)) := (Below.refl _ _).alloc (Nat.le_refl _) _
  simp only [List.map_cons, List.map_nil, List.length_cons, List.length_nil, Nat.zero_add, Nat.reduceAdd] at hv
  obtain ⟨w17, hwe⟩ : ∃ W, W = w16.alloc (.cells #[.int .i64 1] 3) := ⟨_, rfl⟩
  rw [← hwe] at hv hb17 ⊢
  clear hwe
  have HS17 := Lib.hid (HS16.out.trans (hb17.mono HS16.out.size))
  have hw17 := hw16.trans (hb17.mono hw16.size)
  have K17 := Lib.hid (box_step hb17 K16.out)
  replace kc := box_cells K17.out
  replace kf := box_frozen K17.out
  clear K16
  have S17 := Lib.hid (box_step hb17 S16.out)
  replace sc := box_cells S17.out
  replace sf := box_frozen S17.out
  clear S16
  replace hwn := hwn.below hb17
  replace hp := hp.below hb17
  replace n0 := n0.below hb17
  replace n1 := n1.below hb17
  replace n2 := n2.below hb17
  replace ds := ds.below hb17
  replace hbar := hbar.below hb17
  replace k0 := cell_below hb17 k0
  replace k1 := cell_below hb17 k1
  replace k2 := cell_below hb17 k2
  clear hw16 hb17
  refine hK.out _ _ (fun _ => HS17.out) ?_
  clear hK K
  refine wpSeqK_step (fun K hK => ?_)
  go_simp
  refine (Gives.to (show decide (([1] : List Int) = [1]) = true from by decide) (ints_any _ _ _ _ _ n1 hv)).mono ?_
  rintro e w18 ⟨rfl, hb18⟩
  have HS18 := Lib.hid (HS17.out.trans (hb18.mono HS17.out.size))
  have hw18 := hw17.trans (hb18.mono hw17.size)
  have K18 := Lib.hid (box_step hb18 K17.out)
  replace kc := box_cells K18.out
  replace kf := box_frozen K18.out
  clear K17
  have S18 := Lib.hid (box_step hb18 S17.out)
  replace sc := box_cells S18.out
  replace sf := box_frozen S18.out
  clear S17
  replace hwn := hwn.below hb18
  replace hp := hp.below hb18
  replace n0 := n0.below hb18
  replace n1 := n1.below hb18
  replace n2 := n2.below hb18
  replace ds := ds.below hb18
  replace hbar := hbar.below hb18
  replace k0 := cell_below hb18 k0
  replace k1 := cell_below hb18 k1
  replace k2 := cell_below hb18 k2
  clear hw17 hb18
  clear hv
  refine hK.out _ _ (fun _ => HS18.out) ?_
  clear hK K
  refine wpSeqK_nil ?_
  refine wpPh_cons HS18.out (fun hne => ?_)
  have f0 := fun x : Meets (fun w' => Below w11.heap.size w11 w') => cell_below x.property (kb2)
  rw [P3.out, Q3.out]
  clear P3 Q3
  refine BigFrame.wpQuiet_want (want_of rfl o57 rfl rfl) (fun K hK => ?_)
  go_big_quiet_op
  refine hK _ ?_
  clear hK K
  refine BigFrame.wpQuiet_want (rfl) (fun K hK => ?_)
  go_big_quiet_op
  refine hK _ ?_
  clear hK K
  refine BigFrame.wpQuiet_want (rfl) (fun K hK => ?_)
  go_big_quiet_op
  refine hK _ ?_
  clear hK K
  refine BigFrame.wpQuiet_want (want_of rfl o65 rfl rfl) (fun K hK => ?_)
  go_big_quiet_op
  refine hK _ ?_
  clear hK K
  refine BigFrame.wpQuiet_want (want_of rfl o65 rfl rfl) (fun K hK => ?_)
  go_big_quiet_op
  refine hK _ ?_
  clear hK K
  refine BigFrame.wpQuiet_want (want_of rfl o65 rfl rfl) (fun K hK => ?_)
  go_big_quiet_op
  refine hK _ ?_
  clear hK K
  refine wpQuiet_nil ?_
  clear f0 hne
  refine wpSeqK_step (fun K hK => ?_)
  go_simp
  have hv := nums_new w18 [3, 4] 3 (by simp [maxLen])
  have hb19 : Below w18.heap.size w18 (w18.alloc (.cells #[.int .i64 3, .int .i64 4] 3)) := (Below.refl _ _).alloc (Nat.le_refl _) _
  simp only [List.map_cons, List.map_nil, List.length_cons, List.length_nil, Nat.zero_add, Nat.reduceAdd] at hv
  obtain ⟨w19, hwe⟩ : ∃ W, W = w18.alloc (.cells #[.int .i64 3, .int .i64 4] 3) := ⟨_, rfl⟩
  rw [← hwe] at hv hb19 ⊢
  clear hwe
  have HS19 := Lib.hid (HS18.out.trans (hb19.mono HS18.out.size))
  have hw19 := hw18.trans (hb19.mono hw18.size)
  have K19 := Lib.hid (box_step hb19 K18.out)
  replace kc := box_cells K19.out
  replace kf := box_frozen K19.out
  clear K18
  have S19 := Lib.hid (box_step hb19 S18.out)
  replace sc := box_cells S19.out
  replace sf := box_frozen S19.out
  clear S18
  replace hwn := hwn.below hb19
  replace hp := hp.below hb19
  replace n0 := n0.below hb19
  replace n1 := n1.below hb19
  replace n2 := n2.below hb19
  replace ds := ds.below hb19
  replace hbar := hbar.below hb19
  replace k0 := cell_below hb19 k0
  replace k1 := cell_below hb19 k1
  replace k2 := cell_below hb19 k2
  clear hw18 hb19
  refine hK.out _ _ (fun _ => HS19.out) ?_
  clear hK K
  refine wpSeqK_step (fun K hK => ?_)
  go_simp
  refine (Gives.to (show decide (([3, 4] : List Int) = [3, 4]) = true from by decide) (ints_any _ _ _ _ _ n2 hv)).mono ?_
  rintro e w20 ⟨rfl, hb20⟩
  have HS20 := Lib.hid (HS19.out.trans (hb20.mono HS19.out.size))
  have hw20 := hw19.trans (hb20.mono hw19.size)
  have K20 := Lib.hid (box_step hb20 K19.out)
  replace kc := box_cells K20.out
  replace kf := box_frozen K20.out
  clear K19
  have S20 := Lib.hid (box_step hb20 S19.out)
  replace sc := box_cells S20.out
  replace sf := box_frozen S20.out
  clear S19
  replace hwn := hwn.below hb20
  replace hp := hp.below hb20
  replace n0 := n0.below hb20
  replace n1 := n1.below hb20
  replace n2 := n2.below hb20
  replace ds := ds.below hb20
  replace hbar := hbar.below hb20
  replace k0 := cell_below hb20 k0
  replace k1 := cell_below hb20 k1
  replace k2 := cell_below hb20 k2
  clear hw19 hb20
  clear hv
  refine hK.out _ _ (fun _ => HS20.out) ?_
  clear hK K
  refine wpSeqK_nil ?_
  refine wpPh_cons HS20.out (fun hne => ?_)
  rw [P4.out, Q4.out]
  clear P4 Q4
  refine BigFrame.wpQuiet_want (want_of rfl o65 rfl rfl) (fun K hK => ?_)
  go_big_quiet_op
  refine hK _ ?_
  clear hK K
  refine BigFrame.wpQuiet_want (rfl) (fun K hK => ?_)
  go_big_quiet_op
  refine hK _ ?_
  clear hK K
  refine BigFrame.wpQuiet_want (rfl) (fun K hK => ?_)
  go_big_quiet_op
  refine hK _ ?_
  clear hK K
  refine BigFrame.wpQuiet_want (want_of rfl o73 rfl rfl) (fun K hK => ?_)
  go_big_quiet_op
  refine hK _ ?_
  clear hK K
  refine BigFrame.wpQuiet_want (want_of rfl o73 rfl rfl) (fun K hK => ?_)
  go_big_quiet_op
  refine hK _ ?_
  clear hK K
  refine BigFrame.wpQuiet_want (rfl) (fun K hK => ?_)
  go_big_quiet_op
  refine hK _ ?_
  clear hK K
  refine BigFrame.wpQuiet_want (rfl) (fun K hK => ?_)
  go_big_quiet_op
  refine hK _ ?_
  clear hK K
  refine BigFrame.wpQuiet_want (want_of rfl o77 rfl rfl) (fun K hK => ?_)
  go_big_quiet_op
  refine hK _ ?_
  clear hK K
  refine wpQuiet_nil ?_
  clear  hne
  refine wpSeqK_step (fun K hK => ?_)
  go_simp
  have hv := nums_new w20 [0, 1, 2] 3 (by simp [maxLen])
  have hb21 : Below w20.heap.size w20 (w20.alloc (.cells #[.int .i64 0, .int .i64 1, .int .i64 2] 3)) := (Below.refl _ _).alloc (Nat.le_refl _) _
  simp only [List.map_cons, List.map_nil, List.length_cons, List.length_nil, Nat.zero_add, Nat.reduceAdd] at hv
  obtain ⟨w21, hwe⟩ : ∃ W, W = w20.alloc (.cells #[.int .i64 0, .int .i64 1, .int .i64 2] 3) := ⟨_, rfl⟩
  rw [← hwe] at hv hb21 ⊢
  clear hwe
  have HS21 := Lib.hid (HS20.out.trans (hb21.mono HS20.out.size))
  have hw21 := hw20.trans (hb21.mono hw20.size)
  have K21 := Lib.hid (box_step hb21 K20.out)
  replace kc := box_cells K21.out
  replace kf := box_frozen K21.out
  clear K20
  have S21 := Lib.hid (box_step hb21 S20.out)
  replace sc := box_cells S21.out
  replace sf := box_frozen S21.out
  clear S20
  replace hwn := hwn.below hb21
  replace hp := hp.below hb21
  replace n0 := n0.below hb21
  replace n1 := n1.below hb21
  replace n2 := n2.below hb21
  replace ds := ds.below hb21
  replace hbar := hbar.below hb21
  replace k0 := cell_below hb21 k0
  replace k1 := cell_below hb21 k1
  replace k2 := cell_below hb21 k2
  clear hw20 hb21
  refine hK.out _ _ (fun _ => HS21.out) ?_
  clear hK K
  refine wpSeqK_step (fun K hK => ?_)
  go_simp
  refine (Gives.to (show decide (([0, 1, 2] : List Int) = [0, 1, 2]) = true from by decide) (ints_any _ _ _ _ _ hbar hv)).mono ?_
  rintro e w22 ⟨rfl, hb22⟩
  have HS22 := Lib.hid (HS21.out.trans (hb22.mono HS21.out.size))
  have hw22 := hw21.trans (hb22.mono hw21.size)
  have K22 := Lib.hid (box_step hb22 K21.out)
  replace kc := box_cells K22.out
  replace kf := box_frozen K22.out
  clear K21
  have S22 := Lib.hid (box_step hb22 S21.out)
  replace sc := box_cells S22.out
  replace sf := box_frozen S22.out
  clear S21
  replace hwn := hwn.below hb22
  replace hp := hp.below hb22
  replace n0 := n0.below hb22
  replace n1 := n1.below hb22
  replace n2 := n2.below hb22
  replace ds := ds.below hb22
  replace hbar := hbar.below hb22
  replace k0 := cell_below hb22 k0
  replace k1 := cell_below hb22 k1
  replace k2 := cell_below hb22 k2
  clear hw21 hb22
  clear hv
  refine hK.out _ _ (fun _ => HS22.out) ?_
  clear hK K
  refine wpSeqK_nil ?_
  refine wpPh_cons HS22.out (fun hne => ?_)
  rw [P5.out, Q5.out]
  clear P5 Q5
  refine BigFrame.wpQuiet_want (want_of rfl o77 rfl rfl) (fun K hK => ?_)
  go_big_quiet_op
  refine hK _ ?_
  clear hK K
  refine BigFrame.wpQuiet_want (rfl) (fun K hK => ?_)
  go_big_quiet_op
  refine hK _ ?_
  clear hK K
  refine BigFrame.wpQuiet_want (rfl) (fun K hK => ?_)
  go_big_quiet_op
  refine hK _ ?_
  clear hK K
  refine BigFrame.wpQuiet_want (want_of rfl o83 rfl rfl) (fun K hK => ?_)
  go_big_quiet_op
  refine hK _ ?_
  clear hK K
  refine wpQuiet_nil ?_
  clear  hne
  refine wpSeqK_step (fun K hK => ?_)
  go_simp
  refine (monday_any _).mono ?_
  rintro e w23 ⟨A1, A2, c1, c2, rfl, dm, hb23⟩
  have HS23 := Lib.hid (HS22.out.trans (hb23.mono HS22.out.size))
  have hw23 := hw22.trans (hb23.mono hw22.size)
  have K23 := Lib.hid (box_step hb23 K22.out)
  replace kc := box_cells K23.out
  replace kf := box_frozen K23.out
  clear K22
  have S23 := Lib.hid (box_step hb23 S22.out)
  replace sc := box_cells S23.out
  replace sf := box_frozen S23.out
  clear S22
  replace hwn := hwn.below hb23
  replace hp := hp.below hb23
  replace n0 := n0.below hb23
  replace n1 := n1.below hb23
  replace n2 := n2.below hb23
  replace ds := ds.below hb23
  replace hbar := hbar.below hb23
  replace k0 := cell_below hb23 k0
  replace k1 := cell_below hb23 k1
  replace k2 := cell_below hb23 k2
  clear hw22 hb23
  simp only [show mondayD.blocks.length = 2 from rfl, show mondayD.walk.length = 2 from rfl] at dm ⊢
  refine hK.out _ _ (fun _ => HS23.out) ?_
  clear hK K
  refine wpSeqK_step (fun K hK => ?_)
  go_simp
  refine (prove_1 _ _ _ _ dm hp).mono ?_
  rintro e w24 ⟨rfl, hb24⟩
  have HS24 := Lib.hid (HS23.out.trans (hb24.mono HS23.out.size))
  have hw24 := hw23.trans (hb24.mono hw23.size)
  have K24 := Lib.hid (box_step hb24 K23.out)
  replace kc := box_cells K24.out
  replace kf := box_frozen K24.out
  clear K23
  have S24 := Lib.hid (box_step hb24 S23.out)
  replace sc := box_cells S24.out
  replace sf := box_frozen S24.out
  clear S23
  replace hwn := hwn.below hb24
  replace hp := hp.below hb24
  replace n0 := n0.below hb24
  replace n1 := n1.below hb24
  replace n2 := n2.below hb24
  replace ds := ds.below hb24
  replace hbar := hbar.below hb24
  replace k0 := cell_below hb24 k0
  replace k1 := cell_below hb24 k1
  replace k2 := cell_below hb24 k2
  clear hw23 hb24
  clear dm
  refine hK.out _ _ (fun _ => HS24.out) ?_
  clear hK K
  refine wpSeqK_nil ?_
  refine wpPh_cons HS24.out (fun hne => ?_)
  rw [P6.out, Q6.out]
  clear P6 Q6
  refine BigFrame.wpQuiet_want (want_of rfl o83 rfl rfl) (fun K hK => ?_)
  go_big_quiet_op
  refine hK _ ?_
  clear hK K
  refine BigFrame.wpQuiet_want (rfl) (fun K hK => ?_)
  go_big_quiet_op
  refine hK _ ?_
  clear hK K
  refine BigFrame.wpQuiet_want (rfl) (fun K hK => ?_)
  go_big_quiet_op
  refine hK _ ?_
  clear hK K
  refine BigFrame.wpQuiet_want (want_of rfl o89 rfl rfl) (fun K hK => ?_)
  go_big_quiet_op
  refine hK _ ?_
  clear hK K
  refine BigFrame.wpQuiet_want (want_of rfl o89 rfl rfl) (fun K hK => ?_)
  go_big_quiet_op
  refine hK _ ?_
  clear hK K
  refine wpQuiet_nil ?_
  clear  hne
  refine wpSeqK_step (fun K hK => ?_)
  go_simp
  refine (monday_any _).mono ?_
  rintro e w25 ⟨A1, A2, c1, c2, rfl, dm, hb25⟩
  have HS25 := Lib.hid (HS24.out.trans (hb25.mono HS24.out.size))
  have hw25 := hw24.trans (hb25.mono hw24.size)
  have K25 := Lib.hid (box_step hb25 K24.out)
  replace kc := box_cells K25.out
  replace kf := box_frozen K25.out
  clear K24
  have S25 := Lib.hid (box_step hb25 S24.out)
  replace sc := box_cells S25.out
  replace sf := box_frozen S25.out
  clear S24
  replace hwn := hwn.below hb25
  replace hp := hp.below hb25
  replace n0 := n0.below hb25
  replace n1 := n1.below hb25
  replace n2 := n2.below hb25
  replace ds := ds.below hb25
  replace hbar := hbar.below hb25
  replace k0 := cell_below hb25 k0
  replace k1 := cell_below hb25 k1
  replace k2 := cell_below hb25 k2
  clear hw24 hb25
  simp only [show mondayD.blocks.length = 2 from rfl, show mondayD.walk.length = 2 from rfl] at dm ⊢
  refine hK.out _ _ (fun _ => HS25.out) ?_
  clear hK K
  refine wpSeqK_step (fun K hK => ?_)
  go_simp
  refine (prove_2 _ _ _ _ dm (rows_back ⟨hc3, hc4⟩ k1 k2 n1 n2)).mono ?_
  rintro e w26 ⟨rfl, hb26⟩
  have HS26 := Lib.hid (HS25.out.trans (hb26.mono HS25.out.size))
  have hw26 := hw25.trans (hb26.mono hw25.size)
  have K26 := Lib.hid (box_step hb26 K25.out)
  replace kc := box_cells K26.out
  replace kf := box_frozen K26.out
  clear K25
  have S26 := Lib.hid (box_step hb26 S25.out)
  replace sc := box_cells S26.out
  replace sf := box_frozen S26.out
  clear S25
  replace hwn := hwn.below hb26
  replace hp := hp.below hb26
  replace n0 := n0.below hb26
  replace n1 := n1.below hb26
  replace n2 := n2.below hb26
  replace ds := ds.below hb26
  replace hbar := hbar.below hb26
  replace k0 := cell_below hb26 k0
  replace k1 := cell_below hb26 k1
  replace k2 := cell_below hb26 k2
  clear hw25 hb26
  clear dm
  refine hK.out _ _ (fun _ => HS26.out) ?_
  clear hK K
  refine wpSeqK_step (fun K hK => ?_)
  go_simp
  refine hK.out _ _ (fun _ => HS26.out) ?_
  clear hK K
  refine wpSeqK_nil ?_
  refine wpPh_nil ?_
  refine NoPanic.normal ?_
  clear KB kb0 kb1 kb2
  clear hwn hp n0 n1 n2 hbar k0 k1 k2 K26 kc kf
  go_wp2_with fail
  refine (monday_any _).mono ?_
  rintro e w27 ⟨A1, A2, c1, c2, rfl, dm, hb27⟩
  simp only [show mondayD.blocks.length = 2 from rfl, show mondayD.walk.length = 2 from rfl] at dm ⊢
  have hw27 := hw26.trans (hb27.mono hw26.size)
  have S27 := Lib.hid (box_step hb27 S26.out)
  replace sc := box_cells S27.out
  replace sf := box_frozen S27.out
  clear S26
  replace ds := ds.below hb27
  clear hw26 hb27
  go_wp2_with fail
  have hv : NumsAt .i64 (w27.alloc (.cells #[.int .i64 2, .int .i64 0] 3)) (.slice (some ⟨w27.heap.size, 0, none⟩) 2 2) [2, 0] := nums_new w27 [2, 0] 3 (by simp [maxLen])
  have hba : Below w27.heap.size w27 (w27.alloc (.cells #[.int .i64 2, .int .i64 0] 3)) := (Below.refl _ _).alloc (Nat.le_refl _) _
  refine (legal_20 _ _ _ _ (dm.below hba) hv).mono ?_
  clear hv dm
  rintro e w28 ⟨rfl, hbz⟩
  have hb28 := hba.trans (hbz.mono hba.size)
  clear hbz hba
  have hw28 := hw27.trans (hb28.mono hw27.size)
  have S28 := Lib.hid (box_step hb28 S27.out)
  replace sc := box_cells S28.out
  replace sf := box_frozen S28.out
  clear S27
  replace ds := ds.below hb28
  clear hw27 hb28
  go_wp2_with fail
  refine (monday_any _).mono ?_
  rintro e w29 ⟨A1, A2, c1, c2, rfl, dm, hb29⟩
  simp only [show mondayD.blocks.length = 2 from rfl, show mondayD.walk.length = 2 from rfl] at dm ⊢
  have hw29 := hw28.trans (hb29.mono hw28.size)
  have S29 := Lib.hid (box_step hb29 S28.out)
  replace sc := box_cells S29.out
  replace sf := box_frozen S29.out
  clear S28
  replace ds := ds.below hb29
  clear hw28 hb29
  go_wp2_with fail
  refine (legal_nil _ _ _ _ dm (no_nums _)).mono ?_
  rintro e w30 ⟨rfl, hb30⟩
  clear dm
  have hw30 := hw29.trans (hb30.mono hw29.size)
  have S30 := Lib.hid (box_step hb30 S29.out)
  replace sc := box_cells S30.out
  replace sf := box_frozen S30.out
  clear S29
  replace ds := ds.below hb30
  clear hw29 hb30
  go_wp2_with fail
  refine (monday_any _).mono ?_
  rintro e w31 ⟨A1, A2, c1, c2, rfl, dm, hb31⟩
  simp only [show mondayD.blocks.length = 2 from rfl, show mondayD.walk.length = 2 from rfl] at dm ⊢
  have hw31 := hw30.trans (hb31.mono hw30.size)
  have S31 := Lib.hid (box_step hb31 S30.out)
  replace sc := box_cells S31.out
  replace sf := box_frozen S31.out
  clear S30
  replace ds := ds.below hb31
  clear hw30 hb31
  go_wp2_with fail
  have hv : NumsAt .i64 (w31.alloc (.cells #[.int .i64 0, .int .i64 1] 3)) (.slice (some ⟨w31.heap.size, 0, none⟩) 2 2) [0, 1] := nums_new w31 [0, 1] 3 (by simp [maxLen])
  have hba : Below w31.heap.size w31 (w31.alloc (.cells #[.int .i64 0, .int .i64 1] 3)) := (Below.refl _ _).alloc (Nat.le_refl _) _
  refine (pay_01 _ _ _ _ (dm.below hba) hv).mono ?_
  clear hv dm
  rintro e w32 ⟨rfl, hbz⟩
  have hb32 := hba.trans (hbz.mono hba.size)
  clear hbz hba
  have hw32 := hw31.trans (hb32.mono hw31.size)
  have S32 := Lib.hid (box_step hb32 S31.out)
  replace sc := box_cells S32.out
  replace sf := box_frozen S32.out
  clear S31
  replace ds := ds.below hb32
  clear hw31 hb32
  go_wp2_with fail
  refine (monday_any _).mono ?_
  rintro e w33 ⟨A1, A2, c1, c2, rfl, dm, hb33⟩
  simp only [show mondayD.blocks.length = 2 from rfl, show mondayD.walk.length = 2 from rfl] at dm ⊢
  have hw33 := hw32.trans (hb33.mono hw32.size)
  have S33 := Lib.hid (box_step hb33 S32.out)
  replace sc := box_cells S33.out
  replace sf := box_frozen S33.out
  clear S32
  replace ds := ds.below hb33
  clear hw32 hb33
  go_wp2_with fail
  obtain ⟨hba, hv, hvt⟩ : Below w33.heap.size w33 ((((w33.alloc (.cells #[.int .i64 0, .int .i64 2] 3)).alloc (.cells #[.int .i64 300, .int .i64 425, .int .i64 540, .int .i64 660] 3)).alloc (.cells #[.int .i64 400, .int .i64 505, .int .i64 621] 3)).alloc (.cells #[.slice (some ⟨w33.heap.size + 1, 0, none⟩) 4 4, .slice (some ⟨w33.heap.size + 1 + 1, 0, none⟩) 3 3] 28)) ∧ NumsAt .i64 ((((w33.alloc (.cells #[.int .i64 0, .int .i64 2] 3)).alloc (.cells #[.int .i64 300, .int .i64 425, .int .i64 540, .int .i64 660] 3)).alloc (.cells #[.int .i64 400, .int .i64 505, .int .i64 621] 3)).alloc (.cells #[.slice (some ⟨w33.heap.size + 1, 0, none⟩) 4 4, .slice (some ⟨w33.heap.size + 1 + 1, 0, none⟩) 3 3] 28)) (.slice (some ⟨w33.heap.size, 0, none⟩) 2 2) [0, 2] ∧ RowsAt ((((w33.alloc (.cells #[.int .i64 0, .int .i64 2] 3)).alloc (.cells #[.int .i64 300, .int .i64 425, .int .i64 540, .int .i64 660] 3)).alloc (.cells #[.int .i64 400, .int .i64 505, .int .i64 621] 3)).alloc (.cells #[.slice (some ⟨w33.heap.size + 1, 0, none⟩) 4 4, .slice (some ⟨w33.heap.size + 1 + 1, 0, none⟩) 3 3] 28)) (.slice (some ⟨w33.heap.size + 1 + 1 + 1, 0, none⟩) 2 2) [[300, 425, 540, 660], [400, 505, 621]] := by
    obtain ⟨V, rfl, h⟩ := lits_two w33 [0, 2] [300, 425, 540, 660] [400, 505, 621] 3 28 (by simp [maxLen]) (by simp [maxLen]) (by simp [maxLen])
    exact h
  refine (do_2 _ _ _ _ _ (dm.below hba) hv hvt).mono ?_
  clear hv hvt dm
  rintro e w34 ⟨rfl, hbz⟩
  have hb34 := hba.trans (hbz.mono hba.size)
  clear hbz hba
  have hw34 := hw33.trans (hb34.mono hw33.size)
  have S34 := Lib.hid (box_step hb34 S33.out)
  replace sc := box_cells S34.out
  replace sf := box_frozen S34.out
  clear S33
  replace ds := ds.below hb34
  clear hw33 hb34
  go_wp2_with fail
  refine (best_S _ _ _ ds).mono ?_
  rintro e w35 ⟨rfl, hb35⟩
  have hw35 := hw34.trans (hb35.mono hw34.size)
  have S35 := Lib.hid (box_step hb35 S34.out)
  replace sc := box_cells S35.out
  replace sf := box_frozen S35.out
  clear S34
  replace ds := ds.below hb35
  clear hw34 hb35
  go_wp2_with fail
  refine (monday_any _).mono ?_
  rintro e w36 ⟨A1, A2, c1, c2, rfl, dm, hb36⟩
  simp only [show mondayD.blocks.length = 2 from rfl, show mondayD.walk.length = 2 from rfl] at dm ⊢
  have hw36 := hw35.trans (hb36.mono hw35.size)
  have S36 := Lib.hid (box_step hb36 S35.out)
  replace sc := box_cells S36.out
  replace sf := box_frozen S36.out
  clear S35
  replace ds := ds.below hb36
  clear hw35 hb36
  go_wp2_with fail
  refine (barred_M _ _ _ dm).mono ?_
  rintro e w37 ⟨rfl, hb37⟩
  clear dm
  have hw37 := hw36.trans (hb37.mono hw36.size)
  have S37 := Lib.hid (box_step hb37 S36.out)
  replace sc := box_cells S37.out
  replace sf := box_frozen S37.out
  clear S36
  replace ds := ds.below hb37
  clear hw36 hb37
  go_wp2_with fail
  refine (monday_any _).mono ?_
  rintro e w38 ⟨A1, A2, c1, c2, rfl, dm, hb38⟩
  simp only [show mondayD.blocks.length = 2 from rfl, show mondayD.walk.length = 2 from rfl] at dm ⊢
  have hw38 := hw37.trans (hb38.mono hw37.size)
  have S38 := Lib.hid (box_step hb38 S37.out)
  replace sc := box_cells S38.out
  replace sf := box_frozen S38.out
  clear S37
  replace ds := ds.below hb38
  clear hw37 hb38
  go_wp2_with fail
  have hv : NumsAt .i64 (w38.alloc (.cells #[.int .i64 1000, .int .i64 0, .int .i64 500, .int .i64 0, .int .i64 0] 3)) (.slice (some ⟨w38.heap.size, 0, none⟩) 5 5) [1000, 0, 500, 0, 0] := nums_new w38 [1000, 0, 500, 0, 0] 3 (by simp [maxLen])
  have hba : Below w38.heap.size w38 (w38.alloc (.cells #[.int .i64 1000, .int .i64 0, .int .i64 500, .int .i64 0, .int .i64 0] 3)) := (Below.refl _ _).alloc (Nat.le_refl _) _
  refine (bound_9 _ _ _ _ (dm.below hba) hv).mono ?_
  clear hv dm
  rintro e w39 ⟨rfl, hbz⟩
  have hb39 := hba.trans (hbz.mono hba.size)
  clear hbz hba
  have hw39 := hw38.trans (hb39.mono hw38.size)
  have S39 := Lib.hid (box_step hb39 S38.out)
  replace sc := box_cells S39.out
  replace sf := box_frozen S39.out
  clear S38
  replace ds := ds.below hb39
  clear hw38 hb39
  go_wp2_with fail
  refine (monday_any _).mono ?_
  rintro e w40 ⟨A1, A2, c1, c2, rfl, dm, hb40⟩
  simp only [show mondayD.blocks.length = 2 from rfl, show mondayD.walk.length = 2 from rfl] at dm ⊢
  have hw40 := hw39.trans (hb40.mono hw39.size)
  have S40 := Lib.hid (box_step hb40 S39.out)
  replace sc := box_cells S40.out
  replace sf := box_frozen S40.out
  clear S39
  replace ds := ds.below hb40
  clear hw39 hb40
  go_wp2_with fail
  have hv : NumsAt .i64 (w40.alloc (.cells #[.int .i64 1000] 3)) (.slice (some ⟨w40.heap.size, 0, none⟩) 1 1) [1000] := nums_new w40 [1000] 3 (by simp [maxLen])
  have hba : Below w40.heap.size w40 (w40.alloc (.cells #[.int .i64 1000] 3)) := (Below.refl _ _).alloc (Nat.le_refl _) _
  refine (bound_2 _ _ _ _ (dm.below hba) hv).mono ?_
  clear hv dm
  rintro e w41 ⟨rfl, hbz⟩
  have hb41 := hba.trans (hbz.mono hba.size)
  clear hbz hba
  have hw41 := hw40.trans (hb41.mono hw40.size)
  have S41 := Lib.hid (box_step hb41 S40.out)
  replace sc := box_cells S41.out
  replace sf := box_frozen S41.out
  clear S40
  replace ds := ds.below hb41
  clear hw40 hb41
  go_wp2_with fail
  refine (monday_any _).mono ?_
  rintro e w42 ⟨A1, A2, c1, c2, rfl, dm, hb42⟩
  simp only [show mondayD.blocks.length = 2 from rfl, show mondayD.walk.length = 2 from rfl] at dm ⊢
  have hw42 := hw41.trans (hb42.mono hw41.size)
  have S42 := Lib.hid (box_step hb42 S41.out)
  replace sc := box_cells S42.out
  replace sf := box_frozen S42.out
  clear S41
  replace ds := ds.below hb42
  clear hw41 hb42
  go_upto_region 20 with (fail)
  refine wp_name (fun V => Below w42.heap.size w42 V ∧ V.heap[w42.heap.size]? = some (.cells #[.int .i64 oddL.piece, .int .i64 oddL.drive, .int .i64 oddL.spread, .int .i64 oddL.brk, .int .i64 oddL.on, .int .i64 oddL.off, .int .i64 oddL.least, .int .i64 oddL.pieces, .slice A1 2 c1, .slice A2 2 c2] 39 (0, 0))) ⟨(Below.refl _ _).alloc (Nat.le_refl _) _, heap_alloc_new _ _⟩ (fun wv hW => ?_)
  obtain ⟨hbv, hS⟩ := hW
  obtain ⟨w43, rfl⟩ : ∃ V : World, V = wv := ⟨_, rfl⟩
  have hb43 := hbv
  have O43 := Lib.hid hS
  have oc := box_cells O43.out
  have of := box_frozen O43.out
  have dodd : DayAt w43 (.slice A1 2 c1) (.slice A2 2 c2) oddD := ⟨(dm.below hbv).blocks, (dm.below hbv).walk⟩
  clear hbv hS dm
  generalize hgO : w42.heap.size = gO at O43 oc of ⊢
  have hgO2 : w.heap.size ≤ gO := by rw [← hgO]; exact hw42.size
  clear hgO
  have hw43 := hw42.trans (hb43.mono hw42.size)
  have S43 := Lib.hid (box_step hb43 S42.out)
  replace sc := box_cells S43.out
  replace sf := box_frozen S43.out
  clear S42
  replace ds := ds.below hb43
  clear hw42 hb43
  obtain ⟨i0, hi0, hz0, hz1, hz2⟩ := info_parts infoBl
  have mk : ∀ V : World, (Instr.makeSlice 37 (.int .i64 7) (.int .i64 7)).run Try.prog V = .ok (.slice (some ⟨V.heap.size, 0, none⟩) 7 7) (V.alloc (.cells #[.slice none 0 0, .slice none 0 0, .slice none 0 0, .slice none 0 0, .slice none 0 0, .slice none 0 0, .slice none 0 0] 87)) := fun V => by
    have h := run_makeSlice (P := Try.prog) (w := V) 37 87 i0 _ Try.underlying37 hi0 hz0 .i64 .i64 7 7 (by omega) (by omega) (by rw [hz1]; decide) (by rw [hz2]; decide) (by decide)
    rw [hz1] at h
    exact h.trans (by kernel_rfl)
  clear hi0 hz0 hz1 hz2 i0
  go_wp2_with fail
  refine (monday_any _).mono ?_
  rintro e w44 ⟨A1, A2, c1, c2, rfl, dm, hb44⟩
  simp only [show mondayD.blocks.length = 2 from rfl, show mondayD.walk.length = 2 from rfl] at dm ⊢
  have hw44 := hw43.trans (hb44.mono hw43.size)
  have S44 := Lib.hid (box_step hb44 S43.out)
  replace sc := box_cells S44.out
  replace sf := box_frozen S44.out
  clear S43
  have O44 := Lib.hid (box_step hb44 O43.out)
  replace oc := box_cells O44.out
  replace of := box_frozen O44.out
  clear O43
  replace ds := ds.below hb44
  replace dodd := dodd.below hb44
  clear hw43 hb44
  go_upto_region 22 with (fail)
  refine wp_name (fun V => Below w44.heap.size w44 V ∧ V.heap[w44.heap.size]? = some (.cells #[.int .i64 mondayL.piece, .int .i64 mondayL.drive, .int .i64 mondayL.spread, .int .i64 mondayL.brk, .int .i64 mondayL.on, .int .i64 mondayL.off, .int .i64 mondayL.least, .int .i64 mondayL.pieces, .slice (some ⟨w44.heap.size + 1, 0, none⟩) 7 7, .slice A2 2 c2] 39 (0, 0)) ∧ V.heap[w44.heap.size + 1]? = some (.cells #[.slice none 0 0, .slice none 0 0, .slice none 0 0, .slice none 0 0, .slice none 0 0, .slice none 0 0, .slice none 0 0] 87 (0, 0))) ⟨two_below w44 _ _, (Below.heap_alloc _ _ _ (by simp)).trans (heap_alloc_new w44 _), heap_alloc2_new w44 _ _⟩ (fun wv hW => ?_)
  obtain ⟨hbv, hS, hS2⟩ := hW
  obtain ⟨w45, rfl⟩ : ∃ V : World, V = wv := ⟨_, rfl⟩
  have hb45 := hbv
  have M45 := Lib.hid hS
  have mc := box_cells M45.out
  have mf := box_frozen M45.out
  have dmany : DayAt w45 (.slice (some ⟨w44.heap.size + 1, 0, none⟩) 7 7) (.slice A2 2 c2) manyD := ⟨many_blocks hS2, (dm.below hbv).walk⟩
  clear hbv hS hS2 dm mk
  generalize hgM : w44.heap.size = gM at M45 mc mf dmany ⊢
  have hgM2 : w.heap.size ≤ gM := by rw [← hgM]; exact hw44.size
  clear hgM
  have hw45 := hw44.trans (hb45.mono hw44.size)
  have S45 := Lib.hid (box_step hb45 S44.out)
  replace sc := box_cells S45.out
  replace sf := box_frozen S45.out
  clear S44
  have O45 := Lib.hid (box_step hb45 O44.out)
  replace oc := box_cells O45.out
  replace of := box_frozen O45.out
  clear O44
  replace ds := ds.below hb45
  replace dodd := dodd.below hb45
  clear hw44 hb45
  go_wp2_with fail
  refine (monday_any _).mono ?_
  rintro e w46 ⟨A1, A2, c1, c2, rfl, dm, hb46⟩
  simp only [show mondayD.blocks.length = 2 from rfl, show mondayD.walk.length = 2 from rfl] at dm ⊢
  have hw46 := hw45.trans (hb46.mono hw45.size)
  have S46 := Lib.hid (box_step hb46 S45.out)
  replace sc := box_cells S46.out
  replace sf := box_frozen S46.out
  clear S45
  have O46 := Lib.hid (box_step hb46 O45.out)
  replace oc := box_cells O46.out
  replace of := box_frozen O46.out
  clear O45
  have M46 := Lib.hid (box_step hb46 M45.out)
  replace mc := box_cells M46.out
  replace mf := box_frozen M46.out
  clear M45
  replace ds := ds.below hb46
  replace dodd := dodd.below hb46
  replace dmany := dmany.below hb46
  clear hw45 hb46
  go_upto_region 24 with (fail)
  refine wp_name (fun V => Below w46.heap.size w46 V ∧ V.heap[w46.heap.size]? = some (.cells #[.int .i64 mondayL.piece, .int .i64 mondayL.drive, .int .i64 mondayL.spread, .int .i64 mondayL.brk, .int .i64 mondayL.on, .int .i64 mondayL.off, .int .i64 mondayL.least, .int .i64 mondayL.pieces, .slice none 0 0, .slice A2 2 c2] 39 (0, 0))) ⟨(Below.refl _ _).alloc (Nat.le_refl _) _, heap_alloc_new _ _⟩ (fun wv hW => ?_)
  obtain ⟨hbv, hS⟩ := hW
  obtain ⟨w47, rfl⟩ : ∃ V : World, V = wv := ⟨_, rfl⟩
  have hb47 := hbv
  have E47 := Lib.hid hS
  have ec := box_cells E47.out
  have ef := box_frozen E47.out
  have dnone : DayAt w47 (.slice none 0 0) (.slice A2 2 c2) noneD := ⟨no_blocks _, (dm.below hbv).walk⟩
  clear hbv hS dm
  generalize hgE : w46.heap.size = gE at E47 ec ef ⊢
  have hgE2 : w.heap.size ≤ gE := by rw [← hgE]; exact hw46.size
  clear hgE
  have hw47 := hw46.trans (hb47.mono hw46.size)
  have S47 := Lib.hid (box_step hb47 S46.out)
  replace sc := box_cells S47.out
  replace sf := box_frozen S47.out
  clear S46
  have O47 := Lib.hid (box_step hb47 O46.out)
  replace oc := box_cells O47.out
  replace of := box_frozen O47.out
  clear O46
  have M47 := Lib.hid (box_step hb47 M46.out)
  replace mc := box_cells M47.out
  replace mf := box_frozen M47.out
  clear M46
  replace ds := ds.below hb47
  replace dodd := dodd.below hb47
  replace dmany := dmany.below hb47
  clear hw46 hb47
  go_wp2_with fail
  refine (best_N _ _ _ dnone).mono ?_
  rintro e w48 ⟨A9, c9, rfl, hb48⟩
  have hw48 := hw47.trans (hb48.mono hw47.size)
  have S48 := Lib.hid (box_step hb48 S47.out)
  replace sc := box_cells S48.out
  replace sf := box_frozen S48.out
  clear S47
  have O48 := Lib.hid (box_step hb48 O47.out)
  replace oc := box_cells O48.out
  replace of := box_frozen O48.out
  clear O47
  have M48 := Lib.hid (box_step hb48 M47.out)
  replace mc := box_cells M48.out
  replace mf := box_frozen M48.out
  clear M47
  have E48 := Lib.hid (box_step hb48 E47.out)
  replace ec := box_cells E48.out
  replace ef := box_frozen E48.out
  clear E47
  replace ds := ds.below hb48
  replace dodd := dodd.below hb48
  replace dmany := dmany.below hb48
  replace dnone := dnone.below hb48
  clear hw47 hb48
  go_wp2_with fail
  refine (check_O _ _ _ dodd).mono ?_
  rintro e w49 ⟨rfl, hb49⟩
  have hw49 := hw48.trans (hb49.mono hw48.size)
  have S49 := Lib.hid (box_step hb49 S48.out)
  replace sc := box_cells S49.out
  replace sf := box_frozen S49.out
  clear S48
  have O49 := Lib.hid (box_step hb49 O48.out)
  replace oc := box_cells O49.out
  replace of := box_frozen O49.out
  clear O48
  have M49 := Lib.hid (box_step hb49 M48.out)
  replace mc := box_cells M49.out
  replace mf := box_frozen M49.out
  clear M48
  have E49 := Lib.hid (box_step hb49 E48.out)
  replace ec := box_cells E49.out
  replace ef := box_frozen E49.out
  clear E48
  replace ds := ds.below hb49
  replace dodd := dodd.below hb49
  replace dmany := dmany.below hb49
  replace dnone := dnone.below hb49
  clear hw48 hb49
  go_wp2_with fail
  refine (check_E _ _ _ ⟨no_blocks _, no_rows _⟩).mono ?_
  rintro e w50 ⟨rfl, hb50⟩
  have hw50 := hw49.trans (hb50.mono hw49.size)
  have S50 := Lib.hid (box_step hb50 S49.out)
  replace sc := box_cells S50.out
  replace sf := box_frozen S50.out
  clear S49
  have O50 := Lib.hid (box_step hb50 O49.out)
  replace oc := box_cells O50.out
  replace of := box_frozen O50.out
  clear O49
  have M50 := Lib.hid (box_step hb50 M49.out)
  replace mc := box_cells M50.out
  replace mf := box_frozen M50.out
  clear M49
  have E50 := Lib.hid (box_step hb50 E49.out)
  replace ec := box_cells E50.out
  replace ef := box_frozen E50.out
  clear E49
  replace ds := ds.below hb50
  replace dodd := dodd.below hb50
  replace dmany := dmany.below hb50
  replace dnone := dnone.below hb50
  clear hw49 hb50
  go_wp2_with fail
  refine (check_M _ _ _ dmany).mono ?_
  rintro e w51 ⟨rfl, hb51⟩
  have hw51 := hw50.trans (hb51.mono hw50.size)
  have S51 := Lib.hid (box_step hb51 S50.out)
  replace sc := box_cells S51.out
  replace sf := box_frozen S51.out
  clear S50
  have O51 := Lib.hid (box_step hb51 O50.out)
  replace oc := box_cells O51.out
  replace of := box_frozen O51.out
  clear O50
  have M51 := Lib.hid (box_step hb51 M50.out)
  replace mc := box_cells M51.out
  replace mf := box_frozen M51.out
  clear M50
  have E51 := Lib.hid (box_step hb51 E50.out)
  replace ec := box_cells E51.out
  replace ef := box_frozen E51.out
  clear E50
  replace ds := ds.below hb51
  replace dodd := dodd.below hb51
  replace dmany := dmany.below hb51
  replace dnone := dnone.below hb51
  clear hw50 hb51
  go_wp2_with fail
  refine (wakes_any _).mono ?_
  rintro e w52 ⟨rfl, hb52⟩
  have hw52 := hw51.trans (hb52.mono hw51.size)
  have S52 := Lib.hid (box_step hb52 S51.out)
  replace sc := box_cells S52.out
  replace sf := box_frozen S52.out
  clear S51
  have O52 := Lib.hid (box_step hb52 O51.out)
  replace oc := box_cells O52.out
  replace of := box_frozen O52.out
  clear O51
  have M52 := Lib.hid (box_step hb52 M51.out)
  replace mc := box_cells M52.out
  replace mf := box_frozen M52.out
  clear M51
  have E52 := Lib.hid (box_step hb52 E51.out)
  replace ec := box_cells E52.out
  replace ef := box_frozen E52.out
  clear E51
  replace ds := ds.below hb52
  replace dodd := dodd.below hb52
  replace dmany := dmany.below hb52
  replace dnone := dnone.below hb52
  clear hw51 hb52
  go_wp2
  go_ret
  exact ⟨rfl, hw52⟩
end Go.Proofs.Ytllobkhdeahgpaa
