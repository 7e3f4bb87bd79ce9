import Derived.Test.YtckgapeednokjaaGreatUj
set_option linter.unusedVariables false
set_option linter.unusedSimpArgs false
namespace Go.Proofs.YtckgapeednokjaaGreat
open Go Go.Proofs Go.RowKit

/-! ### sheet: valid, checked -/
theorem withinH_same (n lo hi : Int) (w : World) : Calls Tryz.prog 75 #[.int .i64 n, .int .i64 lo, .int .i64 hi] w (Same w (.bool (inB n lo hi))) := by
  by_cases h1 : lo ≤ n
  · by_cases h2 : n ≤ hi
    · have e : inB n lo hi = true := by simp [inB, h1, h2]
      rw [e]; clear e
      go_enter Tryz.func75, Tryz.ntmps75
      go_wp2
      go_ret
      exact ⟨rfl, rfl⟩
    · have e : inB n lo hi = false := by simp [inB, h2]
      rw [e]; clear e
      go_enter Tryz.func75, Tryz.ntmps75
      go_wp2
      go_ret
      exact ⟨rfl, rfl⟩
  · have e : inB n lo hi = false := by simp [inB, h1]
    rw [e]; clear e
    go_enter Tryz.func75, Tryz.ntmps75
    go_wp2
    go_ret
    exact ⟨rfl, rfl⟩

theorem kinds_any (w : World) : Calls Tryz.prog 177 #[] w fun e w' => e = .returned (.slice (some ⟨w.heap.size, 0, none⟩) 3 3) ∧ w' = w.alloc (.cells #[.func (.func 214) #[] #[], .func (.func 215) #[] #[], .func (.func 216) #[] #[]] 262) := by
  go_enter Tryz.func177, Tryz.ntmps177
  go_wp2
  go_ret
  exact ⟨rfl, rfl⟩
set_option maxRecDepth 100000 in
theorem sale_ok (m s t a b : Int) (ha : 0 ≤ a ∧ a ≤ 99) (hb : 0 ≤ b ∧ b ≤ 10000) (w : World) : Calls Tryz.prog 214 #[.agg #[.int .i64 m, .int .i64 s, .int .i64 t, .int .u8 0, .int .i64 a, .int .i64 b]] w (Gives w (.bool true)) := by
  have hw0 : Below w.heap.size w (w.alloc (.cells #[.int .i64 m, .int .i64 s, .int .i64 t, .int .u8 0, .int .i64 a, .int .i64 b] 89)) := (Below.refl _ _).alloc (Nat.le_refl _) _
  have h1 := inB_iff.2 ha
  have h2 := inB_iff.2 hb
  go_enter Tryz.func214, Tryz.ntmps214
  go_wp2_with fail
  refine (Same.to h1 (withinH_same _ _ _ _)).mono ?_
  rintro e w1 ⟨rfl, rfl⟩
  go_wp2_with fail
  refine (Same.to h2 (withinH_same _ _ _ _)).mono ?_
  rintro e w1 ⟨rfl, rfl⟩
  go_wp2
  go_ret
  exact ⟨rfl, hw0⟩
set_option maxRecDepth 100000 in
theorem sync_ok (m s t a b : Int) (ha : 0 ≤ a ∧ a ≤ 1000000) (hb : b = 0) (w : World) : Calls Tryz.prog 215 #[.agg #[.int .i64 m, .int .i64 s, .int .i64 t, .int .u8 1, .int .i64 a, .int .i64 b]] w (Gives w (.bool true)) := by
  have hw0 : Below w.heap.size w (w.alloc (.cells #[.int .i64 m, .int .i64 s, .int .i64 t, .int .u8 1, .int .i64 a, .int .i64 b] 89)) := (Below.refl _ _).alloc (Nat.le_refl _) _
  have h1 := inB_iff.2 ha
  have hb2 : (b == 0) = true := by simpa using hb
  have Hb := Lib.hid hb
  clear hb
  go_enter Tryz.func215, Tryz.ntmps215
  go_wp2_with fail
  refine (Same.to h1 (withinH_same _ _ _ _)).mono ?_
  rintro e w1 ⟨rfl, rfl⟩
  go_wp2
  go_ret
  exact ⟨rfl, hw0⟩
set_option maxRecDepth 100000 in
theorem closes_ok (m s t a b : Int) (ha : 0 ≤ a ∧ a ≤ 9999) (hb : 0 ≤ b ∧ b ≤ 10000000) (w : World) : Calls Tryz.prog 216 #[.agg #[.int .i64 m, .int .i64 s, .int .i64 t, .int .u8 2, .int .i64 a, .int .i64 b]] w (Gives w (.bool true)) := by
  have hw0 : Below w.heap.size w (w.alloc (.cells #[.int .i64 m, .int .i64 s, .int .i64 t, .int .u8 2, .int .i64 a, .int .i64 b] 89)) := (Below.refl _ _).alloc (Nat.le_refl _) _
  have h1 := inB_iff.2 ha
  have h2 := inB_iff.2 hb
  go_enter Tryz.func216, Tryz.ntmps216
  go_wp2_with fail
  refine (Same.to h1 (withinH_same _ _ _ _)).mono ?_
  rintro e w1 ⟨rfl, rfl⟩
  go_wp2_with fail
  refine (Same.to h2 (withinH_same _ _ _ _)).mono ?_
  rintro e w1 ⟨rfl, rfl⟩
  go_wp2
  go_ret
  exact ⟨rfl, hw0⟩
set_option maxRecDepth 100000 in
set_option maxHeartbeats 3200000 in
theorem valid_0 (m s t a b : Int) (hm : 0 ≤ m ∧ m ≤ 999) (hs : 1 ≤ s ∧ s ≤ 9999) (ht : 0 ≤ t ∧ t ≤ 1000000) (ha : 0 ≤ a ∧ a ≤ 99) (hb : 0 ≤ b ∧ b ≤ 10000) (w : World) : Calls Tryz.prog 121 #[.agg #[.int .i64 m, .int .i64 s, .int .i64 t, .int .u8 0, .int .i64 a, .int .i64 b]] w (Gives w (.bool true)) := by
  have hw0 : Below w.heap.size w (w.alloc (.cells #[.int .i64 m, .int .i64 s, .int .i64 t, .int .u8 0, .int .i64 a, .int .i64 b] 89)) := (Below.refl _ _).alloc (Nat.le_refl _) _
  have G0 := Lib.hid (heap_alloc_new w (.cells #[.int .i64 m, .int .i64 s, .int .i64 t, .int .u8 0, .int .i64 a, .int .i64 b] 89 (0, 0)))
  have i0 := inB_iff.2 hm
  have i1 := inB_iff.2 hs
  have i2 := inB_iff.2 ht
  have H3 := Lib.hid (fun w => sale_ok m s t a b ha hb w)
  clear hm hs ht ha hb
  go_enter Tryz.func121, Tryz.ntmps121
  go_upto_region 1 with (fail)
  refine wp_name (fun W => Below w.heap.size w W ∧ W.heap[w.heap.size]? = some (.cells #[.int .i64 m, .int .i64 s, .int .i64 t, .int .u8 0, .int .i64 a, .int .i64 b] 89 (0, 0))) ⟨hw0, G0.out⟩ (fun W hW => ?_)
  obtain ⟨hw1, g1⟩ := hW
  have gc := box_cells g1
  have q0 := gc 0
  have q1 := gc 1
  have q2 := gc 2
  have q3 := gc 3
  have q4 := gc 4
  have q5 := gc 5
  simp only [List.getElem?_toArray, List.getElem?_cons_zero, List.getElem?_cons_succ] at q0 q1 q2 q3 q4 q5
  clear hw0 G0 g1 gc
  refine wp_region_noPanic ?_
  refine wp_region_ph [([0, 1], [2, 3]), ([4, 5], [6, 7, 8]), ([9, 10], [11, 12, 13]), ([14, 15, 16], [17, 18, 19, 20, 21]), ([23, 24, 28], [22, 25, 26, 27, 29, 30, 31])] (fun _ => true) (fun w' => Below W.heap.size W w') (by kernel_rfl) (by kernel_rfl) (fun _ _ _ _ _ h => h) ?_
  have hb0 : Below W.heap.size W W.drew := (Below.refl _ _).drew
  obtain ⟨w2, hwe⟩ : ∃ V, V = W.drew := ⟨_, rfl⟩
  rw [← hwe] at hb0 ⊢
  clear hwe
  refine wpPh_cons hb0 (fun hne => ?_)
  have n0 := fun x : Meets (fun w' => Below W.heap.size W w') => cell_below x.property q0
  simp only [pick, pickN, List.filterMap_cons, List.filterMap_nil, List.getElem?_cons_zero, List.getElem?_cons_succ, Option.map_some]
  repeat (change wpQuiet _ _ _ _ (_ :: _) _; go_big_quiet_step (fail))
  refine wpQuiet_nil ?_
  clear n0 hne
  refine wpSeqK_step (fun K hK => ?_)
  go_simp
  refine (Same.to i0 (withinH_same _ _ _ _)).mono ?_
  rintro e w9 ⟨rfl, rfl⟩
  refine hK.out _ _ (fun _ => hb0) ?_
  clear hK K
  refine wpSeqK_step (fun K hK => ?_)
  go_simp
  refine hK.out _ _ (fun _ => hb0) ?_
  clear hK K
  refine wpSeqK_nil ?_
  refine wpPh_cons hb0 (fun hne => ?_)
  have n0 := fun x : Meets (fun w' => Below W.heap.size W w') => cell_below x.property q1
  simp only [pick, pickN, List.filterMap_cons, List.filterMap_nil, List.getElem?_cons_zero, List.getElem?_cons_succ, Option.map_some]
  repeat (change wpQuiet _ _ _ _ (_ :: _) _; go_big_quiet_step (fail))
  refine wpQuiet_nil ?_
  clear n0 hne
  refine wpSeqK_step (fun K hK => ?_)
  go_simp
  refine (Same.to i1 (withinH_same _ _ _ _)).mono ?_
  rintro e w9 ⟨rfl, rfl⟩
  refine hK.out _ _ (fun _ => hb0) ?_
  clear hK K
  refine wpSeqK_step (fun K hK => ?_)
  go_simp
  refine hK.out _ _ (fun _ => hb0) ?_
  clear hK K
  refine wpSeqK_step (fun K hK => ?_)
  go_simp
  refine hK.out _ _ (fun _ => hb0) ?_
  clear hK K
  refine wpSeqK_nil ?_
  refine wpPh_cons hb0 (fun hne => ?_)
  have n0 := fun x : Meets (fun w' => Below W.heap.size W w') => cell_below x.property q2
  simp only [pick, pickN, List.filterMap_cons, List.filterMap_nil, List.getElem?_cons_zero, List.getElem?_cons_succ, Option.map_some]
  repeat (change wpQuiet _ _ _ _ (_ :: _) _; go_big_quiet_step (fail))
  refine wpQuiet_nil ?_
  clear n0 hne
  refine wpSeqK_step (fun K hK => ?_)
  go_simp
  refine (Same.to i2 (withinH_same _ _ _ _)).mono ?_
  rintro e w9 ⟨rfl, rfl⟩
  refine hK.out _ _ (fun _ => hb0) ?_
  clear hK K
  refine wpSeqK_step (fun K hK => ?_)
  go_simp
  refine hK.out _ _ (fun _ => hb0) ?_
  clear hK K
  refine wpSeqK_step (fun K hK => ?_)
  go_simp
  refine hK.out _ _ (fun _ => hb0) ?_
  clear hK K
  refine wpSeqK_nil ?_
  refine wpPh_cons hb0 (fun hne => ?_)
  have n0 := fun x : Meets (fun w' => Below W.heap.size W w') => cell_below x.property q3
  simp only [pick, pickN, List.filterMap_cons, List.filterMap_nil, List.getElem?_cons_zero, List.getElem?_cons_succ, Option.map_some]
  repeat (change wpQuiet _ _ _ _ (_ :: _) _; go_big_quiet_step (fail))
  refine wpQuiet_nil ?_
  clear n0 hne
  refine wpSeqK_step (fun K hK => ?_)
  go_simp
  refine (kinds_any _).mono ?_
  rintro e W1 ⟨rfl, hW1⟩
  have hb1 : Below W.heap.size W W1 := by rw [hW1]; exact hb0.alloc hb0.size _
  refine hK.out _ _ (fun _ => hb1) ?_
  clear hK K hW1
  refine wpSeqK_step (fun K hK => ?_)
  go_simp
  refine hK.out _ _ (fun _ => hb1) ?_
  clear hK K
  refine wpSeqK_step (fun K hK => ?_)
  go_simp
  refine hK.out _ _ (fun _ => hb1) ?_
  clear hK K
  refine wpSeqK_step (fun K hK => ?_)
  go_simp
  refine hK.out _ _ (fun _ => hb1) ?_
  clear hK K
  refine wpSeqK_step (fun K hK => ?_)
  go_simp
  refine hK.out _ _ (fun _ => hb1) ?_
  clear hK K
  refine wpSeqK_nil ?_
  refine wpPh_cons hb1 (fun hne => ?_)
  have n0 := fun x : Meets (fun w' => Below W.heap.size W w') => cell_below x.property q0
  have n1 := fun x : Meets (fun w' => Below W.heap.size W w') => cell_below x.property q1
  have n2 := fun x : Meets (fun w' => Below W.heap.size W w') => cell_below x.property q2
  have n3 := fun x : Meets (fun w' => Below W.heap.size W w') => cell_below x.property q3
  have n4 := fun x : Meets (fun w' => Below W.heap.size W w') => cell_below x.property q4
  have n5 := fun x : Meets (fun w' => Below W.heap.size W w') => cell_below x.property q5
  simp only [pick, pickN, List.filterMap_cons, List.filterMap_nil, List.getElem?_cons_zero, List.getElem?_cons_succ, Option.map_some]
  repeat (change wpQuiet _ _ _ _ (_ :: _) _; go_big_quiet_step (fail))
  refine wpQuiet_nil ?_
  clear n0 n1 n2 n3 n4 n5 hne
  refine wpSeqK_step (fun K hK => ?_)
  go_simp
  refine (kinds_any _).mono ?_
  rintro e W2 ⟨rfl, hW2⟩
  have hk2 := heap_alloc_new W1 (.cells #[.func (.func 214) #[] #[], .func (.func 215) #[] #[], .func (.func 216) #[] #[]] 262 (0, 0))
  have hb2 : Below W.heap.size W W2 := by rw [hW2]; exact hb1.alloc hb1.size _
  have hk3 : W2.heap[W1.heap.size]? = some (.cells #[.func (.func 214) #[] #[], .func (.func 215) #[] #[], .func (.func 216) #[] #[]] 262 (0, 0)) := by rw [hW2]; exact hk2
  have qk := box_cells hk3 0
  simp only [List.getElem?_toArray, List.getElem?_cons_zero, List.getElem?_cons_succ] at qk
  refine hK.out _ _ (fun _ => hb2) ?_
  clear hK K hW2 hk2 hk3
  refine wpSeqK_step (fun K hK => ?_)
  go_simp
  refine hK.out _ _ (fun _ => hb2) ?_
  clear hK K
  refine wpSeqK_step (fun K hK => ?_)
  go_simp
  refine hK.out _ _ (fun _ => hb2) ?_
  clear hK K
  refine wpSeqK_step (fun K hK => ?_)
  go_simp
  refine hK.out _ _ (fun _ => hb2) ?_
  clear hK K
  refine wpSeqK_step (fun K hK => ?_)
  go_simp
  refine (H3.out _).mono ?_
  rintro e W3 ⟨rfl, hb3⟩
  have hb4 := hb2.trans (hb3.mono hb2.size)
  refine hK.out _ _ (fun _ => hb4) ?_
  clear hK K
  refine wpSeqK_step (fun K hK => ?_)
  go_simp
  refine hK.out _ _ (fun _ => hb4) ?_
  clear hK K
  refine wpSeqK_step (fun K hK => ?_)
  go_simp
  refine hK.out _ _ (fun _ => hb4) ?_
  clear hK K
  refine wpSeqK_nil ?_
  refine wpPh_nil ?_
  refine NoPanic.normal ?_
  go_wp2
  go_ret
  exact ⟨rfl, hw1.trans (hb4.mono hw1.size)⟩
set_option maxRecDepth 100000 in
set_option maxHeartbeats 3200000 in
theorem valid_1 (m s t a b : Int) (hm : 0 ≤ m ∧ m ≤ 999) (hs : 1 ≤ s ∧ s ≤ 9999) (ht : 0 ≤ t ∧ t ≤ 1000000) (ha : 0 ≤ a ∧ a ≤ 1000000) (hb : b = 0) (w : World) : Calls Tryz.prog 121 #[.agg #[.int .i64 m, .int .i64 s, .int .i64 t, .int .u8 1, .int .i64 a, .int .i64 b]] w (Gives w (.bool true)) := by
  have hw0 : Below w.heap.size w (w.alloc (.cells #[.int .i64 m, .int .i64 s, .int .i64 t, .int .u8 1, .int .i64 a, .int .i64 b] 89)) := (Below.refl _ _).alloc (Nat.le_refl _) _
  have G0 := Lib.hid (heap_alloc_new w (.cells #[.int .i64 m, .int .i64 s, .int .i64 t, .int .u8 1, .int .i64 a, .int .i64 b] 89 (0, 0)))
  have i0 := inB_iff.2 hm
  have i1 := inB_iff.2 hs
  have i2 := inB_iff.2 ht
  have H3 := Lib.hid (fun w => sync_ok m s t a b ha hb w)
  clear hm hs ht ha hb
  go_enter Tryz.func121, Tryz.ntmps121
  go_upto_region 1 with (fail)
  refine wp_name (fun W => Below w.heap.size w W ∧ W.heap[w.heap.size]? = some (.cells #[.int .i64 m, .int .i64 s, .int .i64 t, .int .u8 1, .int .i64 a, .int .i64 b] 89 (0, 0))) ⟨hw0, G0.out⟩ (fun W hW => ?_)
  obtain ⟨hw1, g1⟩ := hW
  have gc := box_cells g1
  have q0 := gc 0
  have q1 := gc 1
  have q2 := gc 2
  have q3 := gc 3
  have q4 := gc 4
  have q5 := gc 5
  simp only [List.getElem?_toArray, List.getElem?_cons_zero, List.getElem?_cons_succ] at q0 q1 q2 q3 q4 q5
  clear hw0 G0 g1 gc
  refine wp_region_noPanic ?_
  refine wp_region_ph [([0, 1], [2, 3]), ([4, 5], [6, 7, 8]), ([9, 10], [11, 12, 13]), ([14, 15, 16], [17, 18, 19, 20, 21]), ([23, 24, 28], [22, 25, 26, 27, 29, 30, 31])] (fun _ => true) (fun w' => Below W.heap.size W w') (by kernel_rfl) (by kernel_rfl) (fun _ _ _ _ _ h => h) ?_
  have hb0 : Below W.heap.size W W.drew := (Below.refl _ _).drew
  obtain ⟨w2, hwe⟩ : ∃ V, V = W.drew := ⟨_, rfl⟩
  rw [← hwe] at hb0 ⊢
  clear hwe
  refine wpPh_cons hb0 (fun hne => ?_)
  have n0 := fun x : Meets (fun w' => Below W.heap.size W w') => cell_below x.property q0
  simp only [pick, pickN, List.filterMap_cons, List.filterMap_nil, List.getElem?_cons_zero, List.getElem?_cons_succ, Option.map_some]
  repeat (change wpQuiet _ _ _ _ (_ :: _) _; go_big_quiet_step (fail))
  refine wpQuiet_nil ?_
  clear n0 hne
  refine wpSeqK_step (fun K hK => ?_)
  go_simp
  refine (Same.to i0 (withinH_same _ _ _ _)).mono ?_
  rintro e w9 ⟨rfl, rfl⟩
  refine hK.out _ _ (fun _ => hb0) ?_
  clear hK K
  refine wpSeqK_step (fun K hK => ?_)
  go_simp
  refine hK.out _ _ (fun _ => hb0) ?_
  clear hK K
  refine wpSeqK_nil ?_
  refine wpPh_cons hb0 (fun hne => ?_)
  have n0 := fun x : Meets (fun w' => Below W.heap.size W w') => cell_below x.property q1
  simp only [pick, pickN, List.filterMap_cons, List.filterMap_nil, List.getElem?_cons_zero, List.getElem?_cons_succ, Option.map_some]
  repeat (change wpQuiet _ _ _ _ (_ :: _) _; go_big_quiet_step (fail))
  refine wpQuiet_nil ?_
  clear n0 hne
  refine wpSeqK_step (fun K hK => ?_)
  go_simp
  refine (Same.to i1 (withinH_same _ _ _ _)).mono ?_
  rintro e w9 ⟨rfl, rfl⟩
  refine hK.out _ _ (fun _ => hb0) ?_
  clear hK K
  refine wpSeqK_step (fun K hK => ?_)
  go_simp
  refine hK.out _ _ (fun _ => hb0) ?_
  clear hK K
  refine wpSeqK_step (fun K hK => ?_)
  go_simp
  refine hK.out _ _ (fun _ => hb0) ?_
  clear hK K
  refine wpSeqK_nil ?_
  refine wpPh_cons hb0 (fun hne => ?_)
  have n0 := fun x : Meets (fun w' => Below W.heap.size W w') => cell_below x.property q2
  simp only [pick, pickN, List.filterMap_cons, List.filterMap_nil, List.getElem?_cons_zero, List.getElem?_cons_succ, Option.map_some]
  repeat (change wpQuiet _ _ _ _ (_ :: _) _; go_big_quiet_step (fail))
  refine wpQuiet_nil ?_
  clear n0 hne
  refine wpSeqK_step (fun K hK => ?_)
  go_simp
  refine (Same.to i2 (withinH_same _ _ _ _)).mono ?_
  rintro e w9 ⟨rfl, rfl⟩
  refine hK.out _ _ (fun _ => hb0) ?_
  clear hK K
  refine wpSeqK_step (fun K hK => ?_)
  go_simp
  refine hK.out _ _ (fun _ => hb0) ?_
  clear hK K
  refine wpSeqK_step (fun K hK => ?_)
  go_simp
  refine hK.out _ _ (fun _ => hb0) ?_
  clear hK K
  refine wpSeqK_nil ?_
  refine wpPh_cons hb0 (fun hne => ?_)
  have n0 := fun x : Meets (fun w' => Below W.heap.size W w') => cell_below x.property q3
  simp only [pick, pickN, List.filterMap_cons, List.filterMap_nil, List.getElem?_cons_zero, List.getElem?_cons_succ, Option.map_some]
  repeat (change wpQuiet _ _ _ _ (_ :: _) _; go_big_quiet_step (fail))
  refine wpQuiet_nil ?_
  clear n0 hne
  refine wpSeqK_step (fun K hK => ?_)
  go_simp
  refine (kinds_any _).mono ?_
  rintro e W1 ⟨rfl, hW1⟩
  have hb1 : Below W.heap.size W W1 := by rw [hW1]; exact hb0.alloc hb0.size _
  refine hK.out _ _ (fun _ => hb1) ?_
  clear hK K hW1
  refine wpSeqK_step (fun K hK => ?_)
  go_simp
  refine hK.out _ _ (fun _ => hb1) ?_
  clear hK K
  refine wpSeqK_step (fun K hK => ?_)
  go_simp
  refine hK.out _ _ (fun _ => hb1) ?_
  clear hK K
  refine wpSeqK_step (fun K hK => ?_)
  go_simp
  refine hK.out _ _ (fun _ => hb1) ?_
  clear hK K
  refine wpSeqK_step (fun K hK => ?_)
  go_simp
  refine hK.out _ _ (fun _ => hb1) ?_
  clear hK K
  refine wpSeqK_nil ?_
  refine wpPh_cons hb1 (fun hne => ?_)
  have n0 := fun x : Meets (fun w' => Below W.heap.size W w') => cell_below x.property q0
  have n1 := fun x : Meets (fun w' => Below W.heap.size W w') => cell_below x.property q1
  have n2 := fun x : Meets (fun w' => Below W.heap.size W w') => cell_below x.property q2
  have n3 := fun x : Meets (fun w' => Below W.heap.size W w') => cell_below x.property q3
  have n4 := fun x : Meets (fun w' => Below W.heap.size W w') => cell_below x.property q4
  have n5 := fun x : Meets (fun w' => Below W.heap.size W w') => cell_below x.property q5
  simp only [pick, pickN, List.filterMap_cons, List.filterMap_nil, List.getElem?_cons_zero, List.getElem?_cons_succ, Option.map_some]
  repeat (change wpQuiet _ _ _ _ (_ :: _) _; go_big_quiet_step (fail))
  refine wpQuiet_nil ?_
  clear n0 n1 n2 n3 n4 n5 hne
  refine wpSeqK_step (fun K hK => ?_)
  go_simp
  refine (kinds_any _).mono ?_
  rintro e W2 ⟨rfl, hW2⟩
  have hk2 := heap_alloc_new W1 (.cells #[.func (.func 214) #[] #[], .func (.func 215) #[] #[], .func (.func 216) #[] #[]] 262 (0, 0))
  have hb2 : Below W.heap.size W W2 := by rw [hW2]; exact hb1.alloc hb1.size _
  have hk3 : W2.heap[W1.heap.size]? = some (.cells #[.func (.func 214) #[] #[], .func (.func 215) #[] #[], .func (.func 216) #[] #[]] 262 (0, 0)) := by rw [hW2]; exact hk2
  have qk := box_cells hk3 1
  simp only [List.getElem?_toArray, List.getElem?_cons_zero, List.getElem?_cons_succ] at qk
  refine hK.out _ _ (fun _ => hb2) ?_
  clear hK K hW2 hk2 hk3
  refine wpSeqK_step (fun K hK => ?_)
  go_simp
  refine hK.out _ _ (fun _ => hb2) ?_
  clear hK K
  refine wpSeqK_step (fun K hK => ?_)
  go_simp
  refine hK.out _ _ (fun _ => hb2) ?_
  clear hK K
  refine wpSeqK_step (fun K hK => ?_)
  go_simp
  refine hK.out _ _ (fun _ => hb2) ?_
  clear hK K
  refine wpSeqK_step (fun K hK => ?_)
  go_simp
  refine (H3.out _).mono ?_
  rintro e W3 ⟨rfl, hb3⟩
  have hb4 := hb2.trans (hb3.mono hb2.size)
  refine hK.out _ _ (fun _ => hb4) ?_
  clear hK K
  refine wpSeqK_step (fun K hK => ?_)
  go_simp
  refine hK.out _ _ (fun _ => hb4) ?_
  clear hK K
  refine wpSeqK_step (fun K hK => ?_)
  go_simp
  refine hK.out _ _ (fun _ => hb4) ?_
  clear hK K
  refine wpSeqK_nil ?_
  refine wpPh_nil ?_
  refine NoPanic.normal ?_
  go_wp2
  go_ret
  exact ⟨rfl, hw1.trans (hb4.mono hw1.size)⟩
set_option maxRecDepth 100000 in
set_option maxHeartbeats 3200000 in
theorem valid_2 (m s t a b : Int) (hm : 0 ≤ m ∧ m ≤ 999) (hs : 1 ≤ s ∧ s ≤ 9999) (ht : 0 ≤ t ∧ t ≤ 1000000) (ha : 0 ≤ a ∧ a ≤ 9999) (hb : 0 ≤ b ∧ b ≤ 10000000) (w : World) : Calls Tryz.prog 121 #[.agg #[.int .i64 m, .int .i64 s, .int .i64 t, .int .u8 2, .int .i64 a, .int .i64 b]] w (Gives w (.bool true)) := by
  have hw0 : Below w.heap.size w (w.alloc (.cells #[.int .i64 m, .int .i64 s, .int .i64 t, .int .u8 2, .int .i64 a, .int .i64 b] 89)) := (Below.refl _ _).alloc (Nat.le_refl _) _
  have G0 := Lib.hid (heap_alloc_new w (.cells #[.int .i64 m, .int .i64 s, .int .i64 t, .int .u8 2, .int .i64 a, .int .i64 b] 89 (0, 0)))
  have i0 := inB_iff.2 hm
  have i1 := inB_iff.2 hs
  have i2 := inB_iff.2 ht
  have H3 := Lib.hid (fun w => closes_ok m s t a b ha hb w)
  clear hm hs ht ha hb
  go_enter Tryz.func121, Tryz.ntmps121
  go_upto_region 1 with (fail)
  refine wp_name (fun W => Below w.heap.size w W ∧ W.heap[w.heap.size]? = some (.cells #[.int .i64 m, .int .i64 s, .int .i64 t, .int .u8 2, .int .i64 a, .int .i64 b] 89 (0, 0))) ⟨hw0, G0.out⟩ (fun W hW => ?_)
  obtain ⟨hw1, g1⟩ := hW
  have gc := box_cells g1
  have q0 := gc 0
  have q1 := gc 1
  have q2 := gc 2
  have q3 := gc 3
  have q4 := gc 4
  have q5 := gc 5
  simp only [List.getElem?_toArray, List.getElem?_cons_zero, List.getElem?_cons_succ] at q0 q1 q2 q3 q4 q5
  clear hw0 G0 g1 gc
  refine wp_region_noPanic ?_
  refine wp_region_ph [([0, 1], [2, 3]), ([4, 5], [6, 7, 8]), ([9, 10], [11, 12, 13]), ([14, 15, 16], [17, 18, 19, 20, 21]), ([23, 24, 28], [22, 25, 26, 27, 29, 30, 31])] (fun _ => true) (fun w' => Below W.heap.size W w') (by kernel_rfl) (by kernel_rfl) (fun _ _ _ _ _ h => h) ?_
  have hb0 : Below W.heap.size W W.drew := (Below.refl _ _).drew
  obtain ⟨w2, hwe⟩ : ∃ V, V = W.drew := ⟨_, rfl⟩
  rw [← hwe] at hb0 ⊢
  clear hwe
  refine wpPh_cons hb0 (fun hne => ?_)
  have n0 := fun x : Meets (fun w' => Below W.heap.size W w') => cell_below x.property q0
  simp only [pick, pickN, List.filterMap_cons, List.filterMap_nil, List.getElem?_cons_zero, List.getElem?_cons_succ, Option.map_some]
  repeat (change wpQuiet _ _ _ _ (_ :: _) _; go_big_quiet_step (fail))
  refine wpQuiet_nil ?_
  clear n0 hne
  refine wpSeqK_step (fun K hK => ?_)
  go_simp
  refine (Same.to i0 (withinH_same _ _ _ _)).mono ?_
  rintro e w9 ⟨rfl, rfl⟩
  refine hK.out _ _ (fun _ => hb0) ?_
  clear hK K
  refine wpSeqK_step (fun K hK => ?_)
  go_simp
  refine hK.out _ _ (fun _ => hb0) ?_
  clear hK K
  refine wpSeqK_nil ?_
  refine wpPh_cons hb0 (fun hne => ?_)
  have n0 := fun x : Meets (fun w' => Below W.heap.size W w') => cell_below x.property q1
  simp only [pick, pickN, List.filterMap_cons, List.filterMap_nil, List.getElem?_cons_zero, List.getElem?_cons_succ, Option.map_some]
  repeat (change wpQuiet _ _ _ _ (_ :: _) _; go_big_quiet_step (fail))
  refine wpQuiet_nil ?_
  clear n0 hne
  refine wpSeqK_step (fun K hK => ?_)
  go_simp
  refine (Same.to i1 (withinH_same _ _ _ _)).mono ?_
  rintro e w9 ⟨rfl, rfl⟩
  refine hK.out _ _ (fun _ => hb0) ?_
  clear hK K
  refine wpSeqK_step (fun K hK => ?_)
  go_simp
  refine hK.out _ _ (fun _ => hb0) ?_
  clear hK K
  refine wpSeqK_step (fun K hK => ?_)
  go_simp
  refine hK.out _ _ (fun _ => hb0) ?_
  clear hK K
  refine wpSeqK_nil ?_
  refine wpPh_cons hb0 (fun hne => ?_)
  have n0 := fun x : Meets (fun w' => Below W.heap.size W w') => cell_below x.property q2
  simp only [pick, pickN, List.filterMap_cons, List.filterMap_nil, List.getElem?_cons_zero, List.getElem?_cons_succ, Option.map_some]
  repeat (change wpQuiet _ _ _ _ (_ :: _) _; go_big_quiet_step (fail))
  refine wpQuiet_nil ?_
  clear n0 hne
  refine wpSeqK_step (fun K hK => ?_)
  go_simp
  refine (Same.to i2 (withinH_same _ _ _ _)).mono ?_
  rintro e w9 ⟨rfl, rfl⟩
  refine hK.out _ _ (fun _ => hb0) ?_
  clear hK K
  refine wpSeqK_step (fun K hK => ?_)
  go_simp
  refine hK.out _ _ (fun _ => hb0) ?_
  clear hK K
  refine wpSeqK_step (fun K hK => ?_)
  go_simp
  refine hK.out _ _ (fun _ => hb0) ?_
  clear hK K
  refine wpSeqK_nil ?_
  refine wpPh_cons hb0 (fun hne => ?_)
  have n0 := fun x : Meets (fun w' => Below W.heap.size W w') => cell_below x.property q3
  simp only [pick, pickN, List.filterMap_cons, List.filterMap_nil, List.getElem?_cons_zero, List.getElem?_cons_succ, Option.map_some]
  repeat (change wpQuiet _ _ _ _ (_ :: _) _; go_big_quiet_step (fail))
  refine wpQuiet_nil ?_
  clear n0 hne
  refine wpSeqK_step (fun K hK => ?_)
  go_simp
  refine (kinds_any _).mono ?_
  rintro e W1 ⟨rfl, hW1⟩
  have hb1 : Below W.heap.size W W1 := by rw [hW1]; exact hb0.alloc hb0.size _
  refine hK.out _ _ (fun _ => hb1) ?_
  clear hK K hW1
  refine wpSeqK_step (fun K hK => ?_)
  go_simp
  refine hK.out _ _ (fun _ => hb1) ?_
  clear hK K
  refine wpSeqK_step (fun K hK => ?_)
  go_simp
  refine hK.out _ _ (fun _ => hb1) ?_
  clear hK K
  refine wpSeqK_step (fun K hK => ?_)
  go_simp
  refine hK.out _ _ (fun _ => hb1) ?_
  clear hK K
  refine wpSeqK_step (fun K hK => ?_)
  go_simp
  refine hK.out _ _ (fun _ => hb1) ?_
  clear hK K
  refine wpSeqK_nil ?_
  refine wpPh_cons hb1 (fun hne => ?_)
  have n0 := fun x : Meets (fun w' => Below W.heap.size W w') => cell_below x.property q0
  have n1 := fun x : Meets (fun w' => Below W.heap.size W w') => cell_below x.property q1
  have n2 := fun x : Meets (fun w' => Below W.heap.size W w') => cell_below x.property q2
  have n3 := fun x : Meets (fun w' => Below W.heap.size W w') => cell_below x.property q3
  have n4 := fun x : Meets (fun w' => Below W.heap.size W w') => cell_below x.property q4
  have n5 := fun x : Meets (fun w' => Below W.heap.size W w') => cell_below x.property q5
  simp only [pick, pickN, List.filterMap_cons, List.filterMap_nil, List.getElem?_cons_zero, List.getElem?_cons_succ, Option.map_some]
  repeat (change wpQuiet _ _ _ _ (_ :: _) _; go_big_quiet_step (fail))
  refine wpQuiet_nil ?_
  clear n0 n1 n2 n3 n4 n5 hne
  refine wpSeqK_step (fun K hK => ?_)
  go_simp
  refine (kinds_any _).mono ?_
  rintro e W2 ⟨rfl, hW2⟩
  have hk2 := heap_alloc_new W1 (.cells #[.func (.func 214) #[] #[], .func (.func 215) #[] #[], .func (.func 216) #[] #[]] 262 (0, 0))
  have hb2 : Below W.heap.size W W2 := by rw [hW2]; exact hb1.alloc hb1.size _
  have hk3 : W2.heap[W1.heap.size]? = some (.cells #[.func (.func 214) #[] #[], .func (.func 215) #[] #[], .func (.func 216) #[] #[]] 262 (0, 0)) := by rw [hW2]; exact hk2
  have qk := box_cells hk3 2
  simp only [List.getElem?_toArray, List.getElem?_cons_zero, List.getElem?_cons_succ] at qk
  refine hK.out _ _ (fun _ => hb2) ?_
  clear hK K hW2 hk2 hk3
  refine wpSeqK_step (fun K hK => ?_)
  go_simp
  refine hK.out _ _ (fun _ => hb2) ?_
  clear hK K
  refine wpSeqK_step (fun K hK => ?_)
  go_simp
  refine hK.out _ _ (fun _ => hb2) ?_
  clear hK K
  refine wpSeqK_step (fun K hK => ?_)
  go_simp
  refine hK.out _ _ (fun _ => hb2) ?_
  clear hK K
  refine wpSeqK_step (fun K hK => ?_)
  go_simp
  refine (H3.out _).mono ?_
  rintro e W3 ⟨rfl, hb3⟩
  have hb4 := hb2.trans (hb3.mono hb2.size)
  refine hK.out _ _ (fun _ => hb4) ?_
  clear hK K
  refine wpSeqK_step (fun K hK => ?_)
  go_simp
  refine hK.out _ _ (fun _ => hb4) ?_
  clear hK K
  refine wpSeqK_step (fun K hK => ?_)
  go_simp
  refine hK.out _ _ (fun _ => hb4) ?_
  clear hK K
  refine wpSeqK_nil ?_
  refine wpPh_nil ?_
  refine NoPanic.normal ?_
  go_wp2
  go_ret
  exact ⟨rfl, hw1.trans (hb4.mono hw1.size)⟩
theorem valid_ok (x : Rc) (h : RcOk x) (w : World) : Calls Tryz.prog 121 #[.agg #[.int .i64 x.mac, .int .i64 x.seq, .int .i64 x.min, .int .u8 x.kind, .int .i64 x.a, .int .i64 x.b]] w (Gives w (.bool true)) := by
  obtain ⟨hm, hs, ht, hk⟩ := h
  rcases hk with ⟨e, ha, hb⟩ | ⟨e, ha, hb⟩ | ⟨e, ha, hb⟩
  · rw [e]; exact valid_0 _ _ _ _ _ hm hs ht ha hb w
  · rw [e]; exact valid_1 _ _ _ _ _ hm hs ht ha hb w
  · rw [e]; exact valid_2 _ _ _ _ _ hm hs ht ha hb w

/-! ### all of recs -/
theorem indexFunc_recs (fn : Fn) (fs cs : Array Value) (p : Rc → Bool) (v : Value) (l : List Rc) (w : World) (hv : RecsAt w v l)
    (hf : ∀ (k : Nat) (x : Rc)  (w' : World), l[k]? = some x →  Below w.heap.size w w' → CallsVal Tryz.prog (.func fn fs cs) #[.agg #[.int .i64 x.mac, .int .i64 x.seq, .int .i64 x.min, .int .u8 x.kind, .int .i64 x.a, .int .i64 x.b]] w' (Gives w' (.bool (p x)))) :
    Calls Tryz.prog 213 #[v, .func fn fs cs] w (Gives w (.int .i64 (ixOf p l))) := by
  obtain ⟨A, c, rfl, hc, hm, hT⟩ := hv
  unfold maxLen at hm
  have Hf := Lib.hid hf
  clear hf
  go_enter Tryz.func213, Tryz.ntmps213
  go_wp2
  go_loopw [5, 8] (fun i j wr => ∃ k : Nat, k ≤ l.length ∧ j = .int .i64 k ∧ Below w.heap.size w wr ∧ ∀ (j : Nat) (x : Rc), j < k → l[j]? = some x → p x = false) (fun i j wr => l.length - (intOf j).toNat)
  case atStart => exact ⟨0, by omega, rfl, Below.refl _ _, by intro j x h; omega⟩
  case round =>
    obtain ⟨k, hk, rfl, hb, hall⟩ := hrel
    have Hall := Lib.hid hall
    clear hall
    by_cases hlt : k < l.length
    · obtain ⟨b, o, rfl, hT'⟩ := hT (by omega)
      obtain ⟨x, hx0⟩ : ∃ x, l[k]? = some x := ⟨_, List.getElem?_eq_getElem hlt⟩
      obtain ⟨c0, c1, c2, c3, c4, c5⟩ := hT' k x hx0
      replace c0 := cell_below hb c0
      replace c1 := cell_below hb c1
      replace c2 := cell_below hb c2
      replace c3 := cell_below hb c3
      replace c4 := cell_below hb c4
      replace c5 := cell_below hb c5
      have Hc := Lib.hid (Hf.out k x  wr hx0  hb)
      have Hx0 := Lib.hid hx0
      clear hx0 hT hT'
      go_wp2_with (refine wpList_callv (.tmp 11) [.tmp 15] #[89] rfl rfl (.func fn fs cs) rfl [.agg #[.int .i64 x.mac, .int .i64 x.seq, .int .i64 x.min, .int .u8 x.kind, .int .i64 x.a, .int .i64 x.b]] rfl (.bool (p x)) Hc.out ?_; intro w2 hb2)
      · have hp : p x = true := by assumption
        go_ret
        exact gives_int (ixOf_hit Hall.out Hx0.out hp).symm (hb.trans (hb2.mono hb.size))
      · have hp : p x = false := by assumption
        go_roundw
        case rel =>
          refine ⟨k + 1, by omega, by go_num, hb.trans (hb2.mono hb.size), fun j y hj hy => ?_⟩
          by_cases e : j = k
          · subst e
            rw [Hx0.out] at hy
            cases hy
            exact hp
          · exact Hall.out j y (by omega) hy
        case measure => simp [intOf]; omega
    · go_wp2
      go_ret
      exact gives_int (ixOf_none fun j x hj hx => Hall.out j x (by omega) hx).symm hb

theorem containsFunc_recs (fn : Fn) (fs cs : Array Value) (p : Rc → Bool) (v : Value) (l : List Rc) (w : World) (hv : RecsAt w v l)
    (hf : ∀ (k : Nat) (x : Rc)  (w' : World), l[k]? = some x →  Below w.heap.size w w' → CallsVal Tryz.prog (.func fn fs cs) #[.agg #[.int .i64 x.mac, .int .i64 x.seq, .int .i64 x.min, .int .u8 x.kind, .int .i64 x.a, .int .i64 x.b]] w' (Gives w' (.bool (p x)))) :
    Calls Tryz.prog 175 #[v, .func fn fs cs] w (Gives w (.bool (l.any p))) := by
  have Hc := Lib.hid (indexFunc_recs fn fs cs p v l w hv hf)
  clear hf
  go_enter Tryz.func175, Tryz.ntmps175
  go_wp2_with (go_at_call 213; refine Hc.out.mono ?_; rintro e w' ⟨rfl, hb⟩)
  go_ret
  exact gives_bool (ixOf_any p l) hb


theorem all1_recs (B : Nat) (fn : Fn) (fs cs : Array Value) (b : Bool) (x : Rc) (w : World) (hB : w.cell? ⟨B, 0, none⟩ = some (.func fn fs cs))
    (hf : ∀ (w' : World), Below w.heap.size w w' → CallsVal Tryz.prog (.func fn fs cs) #[.agg #[.int .i64 x.mac, .int .i64 x.seq, .int .i64 x.min, .int .u8 x.kind, .int .i64 x.a, .int .i64 x.b]] w' (Gives w' (.bool b))) :
    CallsVal Tryz.prog (.func (.func 176) #[] #[.pointer (some ⟨B, 0, none⟩)]) #[.agg #[.int .i64 x.mac, .int .i64 x.seq, .int .i64 x.min, .int .u8 x.kind, .int .i64 x.a, .int .i64 x.b]] w (Gives w (.bool (!b))) := by
  refine ⟨176, #[.agg #[.int .i64 x.mac, .int .i64 x.seq, .int .i64 x.min, .int .u8 x.kind, .int .i64 x.a, .int .i64 x.b], .pointer (some ⟨B, 0, none⟩)], by kernel_rfl, ?_⟩
  have hlt := World.block_lt_of_cell? _ _ hB
  have Hf := Lib.hid hf
  clear hf
  go_enter Tryz.func176, Tryz.ntmps176
  go_wp2_with (refine wpList_callv (.tmp 4) [.tmp 5] #[89] rfl rfl (.func fn fs cs) rfl [.agg #[.int .i64 x.mac, .int .i64 x.seq, .int .i64 x.min, .int .u8 x.kind, .int .i64 x.a, .int .i64 x.b]] rfl (.bool b) (Hf.out _ ((Below.refl _ _).alloc (Nat.le_refl _) _)) ?_; intro w2 hb2)
  go_ret
  exact ⟨rfl, ((Below.refl _ _).alloc (Nat.le_refl _) _).trans (hb2.mono (by simp))⟩

theorem all_recs (fn : Fn) (fs cs : Array Value) (p : Rc → Bool) (v : Value) (l : List Rc) (w : World) (hv : RecsAt w v l)
    (hf : ∀ (k : Nat) (x : Rc)  (w' : World), l[k]? = some x →  Below w.heap.size w w' → CallsVal Tryz.prog (.func fn fs cs) #[.agg #[.int .i64 x.mac, .int .i64 x.seq, .int .i64 x.min, .int .u8 x.kind, .int .i64 x.a, .int .i64 x.b]] w' (Gives w' (.bool (p x)))) :
    Calls Tryz.prog 120 #[v, .func fn fs cs] w (Gives w (.bool (l.all p))) := by
  have hb0 : Below w.heap.size w (w.alloc (.cells #[.func fn fs cs] 228)) := (Below.refl _ _).alloc (Nat.le_refl _) _
  have Hc := Lib.hid (containsFunc_recs (.func 176) #[] #[.pointer (some ⟨w.heap.size, 0, none⟩)] (fun x => !p x) v l (w.alloc (.cells #[.func fn fs cs] 228)) (hv.below hb0)
    (fun k x  w' hx  hb => all1_recs w.heap.size fn fs cs (p x) x w' (cell_below hb (by simp)) (fun w2 hb2 => hf k x  w2 hx  (hb0.trans ((hb.mono hb0.size).trans (hb2.mono (Nat.le_trans hb0.size hb.size)))))))
  clear hf
  go_enter Tryz.func120, Tryz.ntmps120
  go_wp2_with (go_at_call 175; refine Hc.out.mono ?_; rintro e w' ⟨rfl, hb⟩)
  go_ret
  exact gives_bool (any_not p l) (hb0.trans (hb.mono hb0.size))

/-- Lists of records. -/
def ListsAt (w : World) (v : Value) (ls : List (List Rc)) : Prop := ∃ A c, v = .slice A ls.length c ∧ ls.length ≤ c ∧ c ≤ maxLen ∧ (0 < ls.length → ∃ b o, A = some ⟨b, o, none⟩ ∧ ∀ k x, ls[k]? = some x → ∃ u, w.cell? ⟨b, o + k, none⟩ = some u ∧ RecsAt w u x)
theorem ListsAt.below {w w' : World} {v : Value} {l : List (List Rc)} (h : ListsAt w v l) (hb : Below w.heap.size w w') : ListsAt w' v l := by
  obtain ⟨A, c, rfl, h1, h2, h3⟩ := h
  refine ⟨A, c, rfl, h1, h2, fun hp => ?_⟩
  obtain ⟨b, o, e, hc⟩ := h3 hp
  refine ⟨b, o, e, fun k r hr => ?_⟩
  obtain ⟨u, c0, hu⟩ := hc k r hr
  exact ⟨u, cell_below hb c0, hu.below hb⟩
theorem ListsAt.form {w : World} {v : Value} {l : List (List Rc)} (h : ListsAt w v l) : ∃ A c, v = .slice A l.length c ∧ l.length ≤ c ∧ c ≤ 9223372036854775807 := by
  obtain ⟨A, c, e, h1, h2, _⟩ := h
  exact ⟨A, c, e, h1, by simpa [maxLen] using h2⟩

/-! ### all of lists -/
theorem indexFunc_lists (fn : Fn) (fs cs : Array Value) (p : (List Rc) → Bool) (v : Value) (l : List (List Rc)) (w : World) (hv : ListsAt w v l)
    (hf : ∀ (k : Nat) (x : (List Rc)) (u : Value) (w' : World), l[k]? = some x → RecsAt w' u x → Below w.heap.size w w' → CallsVal Tryz.prog (.func fn fs cs) #[u] w' (Gives w' (.bool (p x)))) :
    Calls Tryz.prog 212 #[v, .func fn fs cs] w (Gives w (.int .i64 (ixOf p l))) := by
  obtain ⟨A, c, rfl, hc, hm, hT⟩ := hv
  unfold maxLen at hm
  have Hf := Lib.hid hf
  clear hf
  go_enter Tryz.func212, Tryz.ntmps212
  go_wp2
  go_loopw [5, 8] (fun i j wr => ∃ k : Nat, k ≤ l.length ∧ j = .int .i64 k ∧ Below w.heap.size w wr ∧ ∀ (j : Nat) (x : (List Rc)), j < k → l[j]? = some x → p x = false) (fun i j wr => l.length - (intOf j).toNat)
  case atStart => exact ⟨0, by omega, rfl, Below.refl _ _, by intro j x h; omega⟩
  case round =>
    obtain ⟨k, hk, rfl, hb, hall⟩ := hrel
    have Hall := Lib.hid hall
    clear hall
    by_cases hlt : k < l.length
    · obtain ⟨b, o, rfl, hT'⟩ := hT (by omega)
      obtain ⟨x, hx0⟩ : ∃ x, l[k]? = some x := ⟨_, List.getElem?_eq_getElem hlt⟩
      obtain ⟨u, c0, hn⟩ := hT' k x hx0
      replace c0 := cell_below hb c0
      replace hn := hn.below hb
      have Hc := Lib.hid (Hf.out k x u wr hx0 hn hb)
      have Hx0 := Lib.hid hx0
      clear hx0 hT hT'
      go_wp2_with (refine wpList_callv (.tmp 11) [.tmp 15] #[37] rfl rfl (.func fn fs cs) rfl [u] rfl (.bool (p x)) Hc.out ?_; intro w2 hb2)
      · have hp : p x = true := by assumption
        go_ret
        exact gives_int (ixOf_hit Hall.out Hx0.out hp).symm (hb.trans (hb2.mono hb.size))
      · have hp : p x = false := by assumption
        go_roundw
        case rel =>
          refine ⟨k + 1, by omega, by go_num, hb.trans (hb2.mono hb.size), fun j y hj hy => ?_⟩
          by_cases e : j = k
          · subst e
            rw [Hx0.out] at hy
            cases hy
            exact hp
          · exact Hall.out j y (by omega) hy
        case measure => simp [intOf]; omega
    · go_wp2
      go_ret
      exact gives_int (ixOf_none fun j x hj hx => Hall.out j x (by omega) hx).symm hb

theorem containsFunc_lists (fn : Fn) (fs cs : Array Value) (p : (List Rc) → Bool) (v : Value) (l : List (List Rc)) (w : World) (hv : ListsAt w v l)
    (hf : ∀ (k : Nat) (x : (List Rc)) (u : Value) (w' : World), l[k]? = some x → RecsAt w' u x → Below w.heap.size w w' → CallsVal Tryz.prog (.func fn fs cs) #[u] w' (Gives w' (.bool (p x)))) :
    Calls Tryz.prog 173 #[v, .func fn fs cs] w (Gives w (.bool (l.any p))) := by
  have Hc := Lib.hid (indexFunc_lists fn fs cs p v l w hv hf)
  clear hf
  go_enter Tryz.func173, Tryz.ntmps173
  go_wp2_with (go_at_call 212; refine Hc.out.mono ?_; rintro e w' ⟨rfl, hb⟩)
  go_ret
  exact gives_bool (ixOf_any p l) hb


theorem all1_lists (B : Nat) (fn : Fn) (fs cs : Array Value) (b : Bool) (u : Value) (w : World) (hB : w.cell? ⟨B, 0, none⟩ = some (.func fn fs cs))
    (hf : ∀ (w' : World), Below w.heap.size w w' → CallsVal Tryz.prog (.func fn fs cs) #[u] w' (Gives w' (.bool b))) :
    CallsVal Tryz.prog (.func (.func 174) #[] #[.pointer (some ⟨B, 0, none⟩)]) #[u] w (Gives w (.bool (!b))) := by
  refine ⟨174, #[u, .pointer (some ⟨B, 0, none⟩)], by kernel_rfl, ?_⟩
  have hlt := World.block_lt_of_cell? _ _ hB
  have Hf := Lib.hid hf
  clear hf
  go_enter Tryz.func174, Tryz.ntmps174
  go_wp2_with (refine wpList_callv (.tmp 4) [.tmp 5] #[37] rfl rfl (.func fn fs cs) rfl [u] rfl (.bool b) (Hf.out _ (Below.refl _ _)) ?_; intro w2 hb2)
  go_ret
  exact ⟨rfl, hb2⟩

theorem all_lists (fn : Fn) (fs cs : Array Value) (p : (List Rc) → Bool) (v : Value) (l : List (List Rc)) (w : World) (hv : ListsAt w v l)
    (hf : ∀ (k : Nat) (x : (List Rc)) (u : Value) (w' : World), l[k]? = some x → RecsAt w' u x → Below w.heap.size w w' → CallsVal Tryz.prog (.func fn fs cs) #[u] w' (Gives w' (.bool (p x)))) :
    Calls Tryz.prog 117 #[v, .func fn fs cs] w (Gives w (.bool (l.all p))) := by
  have hb0 : Below w.heap.size w (w.alloc (.cells #[.func fn fs cs] 226)) := (Below.refl _ _).alloc (Nat.le_refl _) _
  have Hc := Lib.hid (containsFunc_lists (.func 174) #[] #[.pointer (some ⟨w.heap.size, 0, none⟩)] (fun x => !p x) v l (w.alloc (.cells #[.func fn fs cs] 226)) (hv.below hb0)
    (fun k x u w' hx hn hb => all1_lists w.heap.size fn fs cs (p x) u w' (cell_below hb (by simp)) (fun w2 hb2 => hf k x u w2 hx (hn.below hb2) (hb0.trans ((hb.mono hb0.size).trans (hb2.mono (Nat.le_trans hb0.size hb.size)))))))
  clear hf
  go_enter Tryz.func117, Tryz.ntmps117
  go_wp2_with (go_at_call 173; refine Hc.out.mono ?_; rintro e w' ⟨rfl, hb⟩)
  go_ret
  exact gives_bool (any_not p l) (hb0.trans (hb.mono hb0.size))

theorem valid_val (x : Rc) (h : RcOk x) (w : World) : CallsVal Tryz.prog (.func (.func 121) #[] #[]) #[.agg #[.int .i64 x.mac, .int .i64 x.seq, .int .i64 x.min, .int .u8 x.kind, .int .i64 x.a, .int .i64 x.b]] w (Gives w (.bool true)) :=
  ⟨121, #[.agg #[.int .i64 x.mac, .int .i64 x.seq, .int .i64 x.min, .int .u8 x.kind, .int .i64 x.a, .int .i64 x.b]], by kernel_rfl, valid_ok x h w⟩
theorem chk1_val (u : Value) (x : List Rc) (w : World) (hu : RecsAt w u x) (h60 : x.length ≤ 60) : CallsVal Tryz.prog (.func (.func 118) #[] #[]) #[u] w (Gives w (.bool true)) := by
  refine ⟨118, #[u], by kernel_rfl, ?_⟩
  obtain ⟨A, c, rfl, _, _⟩ := hu.form
  clear hu
  have h1 : (x.length : Int) ≤ 60 := by omega
  go_enter Tryz.func118, Tryz.ntmps118
  go_wp2
  go_ret
  exact ⟨rfl, Below.refl _ _⟩
theorem chk2_val (u : Value) (x : List Rc) (w : World) (hu : RecsAt w u x) (hok : ∀ r ∈ x, RcOk r) : CallsVal Tryz.prog (.func (.func 119) #[] #[]) #[u] w (Gives w (.bool true)) := by
  refine ⟨119, #[u], by kernel_rfl, ?_⟩
  have hc := all_recs (.func 121) #[] #[] (fun _ => true) u x w hu (fun k r w' hr hb => valid_val r (hok r (List.mem_of_getElem? hr)) w')
  have e : (x.all fun _ => true) = true := by simp
  rw [e] at hc
  have Hc := Lib.hid hc
  obtain ⟨A, c, rfl, _, _⟩ := hu.form
  clear hu hc hok e
  go_enter Tryz.func119, Tryz.ntmps119
  go_wp2_with fail
  refine Hc.out.mono ?_
  rintro e w1 ⟨rfl, hb1⟩
  go_wp2
  go_ret
  exact ⟨rfl, hb1⟩
set_option maxRecDepth 100000 in
theorem checked_ok (b o c : Nat) (u : Value) (x : List Rc) (w : World) (hcell : w.cell? ⟨b, o, none⟩ = some u) (hu : RecsAt w u x) (hc1 : 1 ≤ c ∧ c ≤ maxLen) (h60 : x.length ≤ 60) (hok : ∀ r ∈ x, RcOk r) : Calls Tryz.prog 70 #[.slice (some ⟨b, o, none⟩) 1 c] w (Gives w (.int .i64 0)) := by
  have hL : ListsAt w (.slice (some ⟨b, o, none⟩) 1 c) [x] := ⟨_, c, rfl, hc1.1, hc1.2, fun _ => ⟨b, o, rfl, fun k y hy => by
    match k, hy with
    | 0, hy => simp only [List.getElem?_cons_zero, Option.some.injEq] at hy; subst hy; exact ⟨u, hcell, hu⟩⟩⟩
  have e : ([x].all fun _ => true) = true := rfl
  have H1 := Lib.hid (fun (w' : World) (hb : Below w.heap.size w w') => all_lists (.func 118) #[] #[] (fun _ => true) _ [x] w' (hL.below hb) (fun k r u w' hr hu hb => chk1_val u r w' hu (by
    match k, hr with
    | 0, hr => simp only [List.getElem?_cons_zero, Option.some.injEq] at hr; subst hr; exact h60)))
  have H2 := Lib.hid (fun (w' : World) (hb : Below w.heap.size w w') => all_lists (.func 119) #[] #[] (fun _ => true) _ [x] w' (hL.below hb) (fun k r u w' hr hu hb => chk2_val u r w' hu (by
    match k, hr with
    | 0, hr => simp only [List.getElem?_cons_zero, Option.some.injEq] at hr; subst hr; exact hok)))
  rw [e] at H1 H2
  clear e hL hcell hu h60 hok
  go_enter Tryz.func70, Tryz.ntmps70
  go_wp2_with fail
  refine (H1.out _ (Below.refl _ _)).mono ?_
  rintro e w1 ⟨rfl, hb1⟩
  go_wp2_with fail
  refine (H2.out _ hb1).mono ?_
  rintro e w2 ⟨rfl, hb2⟩
  go_wp2
  go_ret
  exact ⟨rfl, hb1.trans (hb2.mono hb1.size)⟩
end Go.Proofs.YtckgapeednokjaaGreat
