import Derived.Test.YtmbkpfkkohpnkaaTo
set_option linter.unusedVariables false
set_option linter.unusedSimpArgs false
namespace Go.Proofs.Ytmbkpfkkohpnkaa
open Go Go.Proofs Go.RowKit

/-! ### What the chapter shows -/
def cityT : Tar := ⟨3, [2, 3, 5], [4, 6, 8], [15, 20, 30], 60⟩
def rodeL : List Rd := [⟨0, 480, 0, 0⟩, ⟨0, 530, 0, 1⟩, ⟨0, 560, 1, 1⟩, ⟨0, 700, 0, 1⟩]
def tappedL : List Tp := [⟨0, 2, 3, ⟨0, 530, 0, 1⟩⟩, ⟨0, 0, 3, ⟨0, 480, 0, 0⟩⟩]
theorem city_val : tarB cityT = true := by decide +kernel
theorem nums3 {W : World} {B : Nat} {x y z : Int} {T : TypeId} (h : W.heap[B]? = some (.cells #[.int .i64 x, .int .i64 y, .int .i64 z] T (0, 0))) : NumsAt .i64 W (.slice (some ⟨B, 0, none⟩) 3 3) [x, y, z] := by
  refine ⟨_, 3, rfl, Nat.le_refl _, by simp [maxLen], fun _ => ⟨B, 0, rfl, fun k hk => ?_⟩⟩
  rw [box_cells h]
  match k, hk with
  | 0, _ => rfl
  | 1, _ => rfl
  | 2, _ => rfl
theorem heap_in {w : World} {o o' : Obj} {k : Nat} (h : w.heap[k]? = some o') : (w.alloc o).heap[k]? = some o' := (Below.heap_alloc w o k (Array.getElem?_eq_some_iff.1 h).1).trans h
set_option maxRecDepth 100000 in
theorem city_any (w : World) : Calls Try.prog 42 #[] w fun e w' => ∃ a b c, e = .returned (.agg #[.int .i64 cityT.zones, a, b, c, .int .i64 cityT.window]) ∧ TarAt w' a b c cityT ∧ Below w.heap.size w w' := by
  go_enter Try.func42, Try.ntmps42
  go_wp2
  refine bodyPost_ret (v := .agg #[.int .i64 3, .slice (some ⟨w.heap.size + 1, 0, none⟩) 3 3, .slice (some ⟨w.heap.size + 1 + 1, 0, none⟩) 3 3, .slice (some ⟨w.heap.size + 1 + 1 + 1, 0, none⟩) 3 3, .int .i64 60]) (by simp [results, Try.results42, go_sem]) rfl ?_
  refine ⟨_, _, _, rfl, ⟨nums3 (heap_in (heap_in (heap_alloc2_new w _ _))), nums3 (heap_in (heap_alloc3_new w _ _ _)), nums3 (T := 3) ?_⟩, ((((Below.refl _ _).alloc (Nat.le_refl _) _).alloc (by simp) _).alloc (by simp; omega) _).alloc (by simp; omega) _⟩
  rw [heap_alloc_if, if_pos (by simp)]
set_option maxRecDepth 100000 in
theorem rode_any (w : World) : Calls Try.prog 45 #[] w fun e w' => e = .returned (.slice (some ⟨w.heap.size, 0, none⟩) 4 4) ∧ w' = w.alloc (.cells #[.int .i64 0, .int .i64 480, .int .i64 0, .int .i64 0, .int .i64 0, .int .i64 530, .int .i64 0, .int .i64 1, .int .i64 0, .int .i64 560, .int .i64 1, .int .i64 1, .int .i64 0, .int .i64 700, .int .i64 0, .int .i64 1] 70) := by
  go_enter Try.func45, Try.ntmps45
  go_wp2
  go_ret
  exact ⟨rfl, rfl⟩
theorem rode_at {W : World} {B k : Nat} {T : TypeId} (h : W.heap[B]? = some (.cells #[.int .i64 0, .int .i64 480, .int .i64 0, .int .i64 0, .int .i64 0, .int .i64 530, .int .i64 0, .int .i64 1, .int .i64 0, .int .i64 560, .int .i64 1, .int .i64 1, .int .i64 0, .int .i64 700, .int .i64 0, .int .i64 1] T (0, 0))) (hk : k ≤ 4) : RdsAt W (.slice (some ⟨B, 0, none⟩) k 4) (rodeL.take k) := by
  have hl : (rodeL.take k).length = k := by simp [rodeL]; omega
  refine ⟨_, 4, by rw [hl], by rw [hl]; exact hk, by simp [maxLen], fun _ => ⟨B, 0, rfl, fun j r hr => ?_⟩⟩
  have hr' : rodeL[j]? = some r := by
    rw [List.getElem?_take] at hr
    split at hr
    · exact hr
    · cases hr
  have hj : j < 4 := (List.getElem?_eq_some_iff.1 hr').1
  have hq := box_cells h
  match j, hj with
  | 0, _ => cases hr'; exact ⟨hq 0, hq 1, hq 2, hq 3⟩
  | 1, _ => cases hr'; exact ⟨hq 4, hq 5, hq 6, hq 7⟩
  | 2, _ => cases hr'; exact ⟨hq 8, hq 9, hq 10, hq 11⟩
  | 3, _ => cases hr'; exact ⟨hq 12, hq 13, hq 14, hq 15⟩
theorem tapped_at {W : World} {B : Nat} {T : TypeId} (h : W.heap[B]? = some (.cells #[.int .i64 0, .int .i64 2, .int .i64 3, .int .i64 0, .int .i64 530, .int .i64 0, .int .i64 1, .int .i64 0, .int .i64 0, .int .i64 3, .int .i64 0, .int .i64 480, .int .i64 0, .int .i64 0] T (0, 0))) : TpsAt W (.slice (some ⟨B, 0, none⟩) 2 2) tappedL := by
  have hq := box_cells h
  refine ⟨_, 2, rfl, Nat.le_refl _, by simp [maxLen], fun _ => ⟨B, 0, rfl, fun j r hr => ?_⟩⟩
  have hj : j < 2 := (List.getElem?_eq_some_iff.1 hr).1
  match j, hj with
  | 0, _ => cases hr; exact ⟨hq 0, hq 1, hq 2, hq 3, hq 4, hq 5, hq 6⟩
  | 1, _ => cases hr; exact ⟨hq 7, hq 8, hq 9, hq 10, hq 11, hq 12, hq 13⟩
set_option maxRecDepth 100000 in
set_option maxHeartbeats 1000000 in
theorem tapped_any (w : World) : Calls Try.prog 43 #[] w fun e w' => ∃ B, e = .returned (.slice (some ⟨B, 0, none⟩) 2 2) ∧ TpsAt w' (.slice (some ⟨B, 0, none⟩) 2 2) tappedL ∧ Below w.heap.size w w' ∧ w.heap.size ≤ B := by
  go_enter Try.func43, Try.ntmps43
  go_upto_region 1 with (fail)
  refine wp_region_noPanic ?_
  refine wp_region_front (fun _ => true) (fun w' => Below w.heap.size w w' ∧ w'.heap[w.heap.size]? = some (.cells #[.int .i64 0, .int .i64 480, .int .i64 0, .int .i64 0, .int .i64 0, .int .i64 530, .int .i64 0, .int .i64 1, .int .i64 0, .int .i64 560, .int .i64 1, .int .i64 1, .int .i64 0, .int .i64 700, .int .i64 0, .int .i64 1] 70 (0, 0))) (by kernel_rfl) ?_
  refine wpAnyF_one (i := 0) (by kernel_rfl) rfl (fun K hK => ?_)
  go_simp
  refine (rode_any _).mono ?_
  rintro e w1 ⟨rfl, rfl⟩
  have hs1 : Below w.heap.size w (w.drew.alloc (.cells #[.int .i64 0, .int .i64 480, .int .i64 0, .int .i64 0, .int .i64 0, .int .i64 530, .int .i64 0, .int .i64 1, .int .i64 0, .int .i64 560, .int .i64 1, .int .i64 1, .int .i64 0, .int .i64 700, .int .i64 0, .int .i64 1] 70)) ∧ (w.drew.alloc (.cells #[.int .i64 0, .int .i64 480, .int .i64 0, .int .i64 0, .int .i64 0, .int .i64 530, .int .i64 0, .int .i64 1, .int .i64 0, .int .i64 560, .int .i64 1, .int .i64 1, .int .i64 0, .int .i64 700, .int .i64 0, .int .i64 1] 70)).heap[w.heap.size]? = some (.cells #[.int .i64 0, .int .i64 480, .int .i64 0, .int .i64 0, .int .i64 0, .int .i64 530, .int .i64 0, .int .i64 1, .int .i64 0, .int .i64 560, .int .i64 1, .int .i64 1, .int .i64 0, .int .i64 700, .int .i64 0, .int .i64 1] 70 (0, 0)) := ⟨(Below.refl _ _).drew.alloc (Nat.le_refl _) _, heap_alloc_new w.drew _⟩
  refine hK.out _ _ (fun _ => hs1) ?_
  clear hK K
  generalize w.drew.alloc (.cells #[.int .i64 0, .int .i64 480, .int .i64 0, .int .i64 0, .int .i64 0, .int .i64 530, .int .i64 0, .int .i64 1, .int .i64 0, .int .i64 560, .int .i64 1, .int .i64 1, .int .i64 0, .int .i64 700, .int .i64 0, .int .i64 1] 70) = w1 at *
  try go_simp
  refine wpAnyF_pick (by kernel_rfl) (fun _ _ _ _ _ h => h) 6 [1, 2, 3] _ _ _ (by kernel_rfl) hs1 ?_
  have hne : Nonempty (Meets (fun w' => Below w.heap.size w w' ∧ w'.heap[w.heap.size]? = some (.cells #[.int .i64 0, .int .i64 480, .int .i64 0, .int .i64 0, .int .i64 0, .int .i64 530, .int .i64 0, .int .i64 1, .int .i64 0, .int .i64 560, .int .i64 1, .int .i64 1, .int .i64 0, .int .i64 700, .int .i64 0, .int .i64 1] 70 (0, 0)))) := ⟨⟨_, hs1⟩⟩
  have n4 : ∀ x : Meets (fun w' => Below w.heap.size w w' ∧ w'.heap[w.heap.size]? = some (.cells #[.int .i64 0, .int .i64 480, .int .i64 0, .int .i64 0, .int .i64 0, .int .i64 530, .int .i64 0, .int .i64 1, .int .i64 0, .int .i64 560, .int .i64 1, .int .i64 1, .int .i64 0, .int .i64 700, .int .i64 0, .int .i64 1] 70 (0, 0))), x.val.cell? ⟨w.heap.size, 4, none⟩ = some (.int .i64 0) := fun x => box_cells x.property.2 4
  have n5 : ∀ x : Meets (fun w' => Below w.heap.size w w' ∧ w'.heap[w.heap.size]? = some (.cells #[.int .i64 0, .int .i64 480, .int .i64 0, .int .i64 0, .int .i64 0, .int .i64 530, .int .i64 0, .int .i64 1, .int .i64 0, .int .i64 560, .int .i64 1, .int .i64 1, .int .i64 0, .int .i64 700, .int .i64 0, .int .i64 1] 70 (0, 0))), x.val.cell? ⟨w.heap.size, 5, none⟩ = some (.int .i64 530) := fun x => box_cells x.property.2 5
  have n6 : ∀ x : Meets (fun w' => Below w.heap.size w w' ∧ w'.heap[w.heap.size]? = some (.cells #[.int .i64 0, .int .i64 480, .int .i64 0, .int .i64 0, .int .i64 0, .int .i64 530, .int .i64 0, .int .i64 1, .int .i64 0, .int .i64 560, .int .i64 1, .int .i64 1, .int .i64 0, .int .i64 700, .int .i64 0, .int .i64 1] 70 (0, 0))), x.val.cell? ⟨w.heap.size, 6, none⟩ = some (.int .i64 0) := fun x => box_cells x.property.2 6
  have n7 : ∀ x : Meets (fun w' => Below w.heap.size w w' ∧ w'.heap[w.heap.size]? = some (.cells #[.int .i64 0, .int .i64 480, .int .i64 0, .int .i64 0, .int .i64 0, .int .i64 530, .int .i64 0, .int .i64 1, .int .i64 0, .int .i64 560, .int .i64 1, .int .i64 1, .int .i64 0, .int .i64 700, .int .i64 0, .int .i64 1] 70 (0, 0))), x.val.cell? ⟨w.heap.size, 7, none⟩ = some (.int .i64 1) := fun x => box_cells x.property.2 7
  simp only [pick, List.filterMap_cons, List.filterMap_nil, List.getElem?_cons_zero, List.getElem?_cons_succ]
  repeat (change wpQuiet _ _ _ _ (_ :: _) _; go_big_quiet_step (fail))
  refine wpQuiet_nil ?_
  clear n4 n5 n6 n7 hne
  refine wpAnyF_one (i := 4) (by kernel_rfl) rfl (fun K hK => ?_)
  go_simp
  refine (rode_any _).mono ?_
  rintro e w2 ⟨rfl, rfl⟩
  have hs2 : Below w.heap.size w (w1.alloc (.cells #[.int .i64 0, .int .i64 480, .int .i64 0, .int .i64 0, .int .i64 0, .int .i64 530, .int .i64 0, .int .i64 1, .int .i64 0, .int .i64 560, .int .i64 1, .int .i64 1, .int .i64 0, .int .i64 700, .int .i64 0, .int .i64 1] 70)) ∧ (w1.alloc (.cells #[.int .i64 0, .int .i64 480, .int .i64 0, .int .i64 0, .int .i64 0, .int .i64 530, .int .i64 0, .int .i64 1, .int .i64 0, .int .i64 560, .int .i64 1, .int .i64 1, .int .i64 0, .int .i64 700, .int .i64 0, .int .i64 1] 70)).heap[w.heap.size]? = some (.cells #[.int .i64 0, .int .i64 480, .int .i64 0, .int .i64 0, .int .i64 0, .int .i64 530, .int .i64 0, .int .i64 1, .int .i64 0, .int .i64 560, .int .i64 1, .int .i64 1, .int .i64 0, .int .i64 700, .int .i64 0, .int .i64 1] 70 (0, 0)) := ⟨hs1.1.alloc hs1.1.size _, heap_in hs1.2⟩
  have hs3 := heap_alloc_new w1 (.cells #[.int .i64 0, .int .i64 480, .int .i64 0, .int .i64 0, .int .i64 0, .int .i64 530, .int .i64 0, .int .i64 1, .int .i64 0, .int .i64 560, .int .i64 1, .int .i64 1, .int .i64 0, .int .i64 700, .int .i64 0, .int .i64 1] 70)
  refine hK.out _ _ (fun _ => hs2) ?_
  clear hK K
  generalize w1.alloc (.cells #[.int .i64 0, .int .i64 480, .int .i64 0, .int .i64 0, .int .i64 0, .int .i64 530, .int .i64 0, .int .i64 1, .int .i64 0, .int .i64 560, .int .i64 1, .int .i64 1, .int .i64 0, .int .i64 700, .int .i64 0, .int .i64 1] 70) = w2 at *
  have hq := box_cells hs3
  have m0 := hq 0
  have m1 := hq 1
  have m2 := hq 2
  have m3 := hq 3
  simp only [List.getElem?_toArray, List.getElem?_cons_zero, List.getElem?_cons_succ] at m0 m1 m2 m3
  clear hq
  refine wpAnyF_one (i := 5) (by kernel_rfl) rfl (fun K hK => ?_)
  go_simp
  refine hK.out _ _ (fun _ => hs2) ?_
  clear hK K
  refine wpAnyF_one (i := 6) (by kernel_rfl) rfl (fun K hK => ?_)
  go_simp
  refine hK.out _ _ (fun _ => hs2) ?_
  clear hK K
  refine wpAnyF_one (i := 7) (by kernel_rfl) rfl (fun K hK => ?_)
  go_simp
  refine hK.out _ _ (fun _ => hs2) ?_
  clear hK K
  refine wpAnyF_one (i := 8) (by kernel_rfl) rfl (fun K hK => ?_)
  go_simp
  have hs4 : Below w.heap.size w (w2.alloc (.cells #[.int .i64 0, .int .i64 2, .int .i64 3, .int .i64 0, .int .i64 530, .int .i64 0, .int .i64 1, .int .i64 0, .int .i64 0, .int .i64 3, .int .i64 0, .int .i64 480, .int .i64 0, .int .i64 0] 91)) ∧ (w2.alloc (.cells #[.int .i64 0, .int .i64 2, .int .i64 3, .int .i64 0, .int .i64 530, .int .i64 0, .int .i64 1, .int .i64 0, .int .i64 0, .int .i64 3, .int .i64 0, .int .i64 480, .int .i64 0, .int .i64 0] 91)).heap[w.heap.size]? = some (.cells #[.int .i64 0, .int .i64 480, .int .i64 0, .int .i64 0, .int .i64 0, .int .i64 530, .int .i64 0, .int .i64 1, .int .i64 0, .int .i64 560, .int .i64 1, .int .i64 1, .int .i64 0, .int .i64 700, .int .i64 0, .int .i64 1] 70 (0, 0)) := ⟨hs2.1.alloc hs2.1.size _, heap_in hs2.2⟩
  have hs5 := heap_alloc_new w2 (.cells #[.int .i64 0, .int .i64 2, .int .i64 3, .int .i64 0, .int .i64 530, .int .i64 0, .int .i64 1, .int .i64 0, .int .i64 0, .int .i64 3, .int .i64 0, .int .i64 480, .int .i64 0, .int .i64 0] 91)
  have hs6 : w.heap.size ≤ w2.heap.size := hs2.1.size
  refine hK.out _ _ (fun _ => hs4) ?_
  clear hK K
  generalize w2.alloc (.cells #[.int .i64 0, .int .i64 2, .int .i64 3, .int .i64 0, .int .i64 530, .int .i64 0, .int .i64 1, .int .i64 0, .int .i64 0, .int .i64 3, .int .i64 0, .int .i64 480, .int .i64 0, .int .i64 0] 91) = w3 at *
  refine wpAnyF_one (i := 9) (by kernel_rfl) rfl (fun K hK => ?_)
  go_simp
  refine hK.out _ _ (fun _ => hs4) ?_
  clear hK K m0 m1 m2 m3
  refine wpAnyF_done (by kernel_rfl) ?_ _
  refine NoPanic.normal ?_
  go_wp2
  go_ret
  exact ⟨w2.heap.size, rfl, tapped_at hs5, hs4.1, hs6⟩
set_option maxRecDepth 100000 in
set_option maxHeartbeats 4000000 in
theorem awake_any (w : World) : Calls Try.prog 18 #[] w (Gives w (.bool true)) := by
  go_enter Try.func18, Try.ntmps18
  have h0 : Below w.heap.size w w := Below.refl _ _
  go_wp2_with fail
  refine (city_any _).mono ?_
  rintro e c1 ⟨a1, b1, d1, rfl, hT1, hc1⟩
  have hB1 : Below w.heap.size w c1 := h0.trans (hc1.mono h0.size)
  go_wp2_with fail
  refine (rode_any _).mono ?_
  rintro e r1 ⟨rfl, rfl⟩
  have hr1 := heap_alloc_new c1 (.cells #[.int .i64 0, .int .i64 480, .int .i64 0, .int .i64 0, .int .i64 0, .int .i64 530, .int .i64 0, .int .i64 1, .int .i64 0, .int .i64 560, .int .i64 1, .int .i64 1, .int .i64 0, .int .i64 700, .int .i64 0, .int .i64 1] 70)
  have hR1 := hB1.alloc hB1.size (.cells #[.int .i64 0, .int .i64 480, .int .i64 0, .int .i64 0, .int .i64 0, .int .i64 530, .int .i64 0, .int .i64 1, .int .i64 0, .int .i64 560, .int .i64 1, .int .i64 1, .int .i64 0, .int .i64 700, .int .i64 0, .int .i64 1] 70)
  have hS1 := hT1.below ((Below.refl _ _).alloc (Nat.le_refl _) (.cells #[.int .i64 0, .int .i64 480, .int .i64 0, .int .i64 0, .int .i64 0, .int .i64 530, .int .i64 0, .int .i64 1, .int .i64 0, .int .i64 560, .int .i64 1, .int .i64 1, .int .i64 0, .int .i64 700, .int .i64 0, .int .i64 1] 70))
  generalize c1.alloc (.cells #[.int .i64 0, .int .i64 480, .int .i64 0, .int .i64 0, .int .i64 0, .int .i64 530, .int .i64 0, .int .i64 1, .int .i64 0, .int .i64 560, .int .i64 1, .int .i64 1, .int .i64 0, .int .i64 700, .int .i64 0, .int .i64 1] 70) = r1 at *
  generalize c1.heap.size = B1 at *
  go_wp2_with fail
  refine (Tickets_any cityT a1 b1 d1 _ (rodeL.take 2) r1 hS1 (rode_at hr1 (by omega)) (by decide)).mono ?_
  rintro e t1 ⟨ht1, _, hg1⟩
  obtain ⟨A1, k1, rfl, ho1⟩ := hg1 (by decide +kernel)
  have hU1 : Below w.heap.size w t1 := hR1.trans (ht1.mono hR1.size)
  clear hg1 hS1 hr1 hT1 hc1 hB1 hR1 ht1
  have v1 : (chargeT cityT (onceL (rodeL.take 2))).1 = 3 := by decide +kernel
  rw [v1]
  clear ho1 v1
  generalize (chargeT cityT (onceL (rodeL.take 2))).2.length = n1
  go_wp2_with fail
  refine (city_any _).mono ?_
  rintro e c2 ⟨a2, b2, d2, rfl, hT2, hc2⟩
  have hB2 : Below w.heap.size w c2 := hU1.trans (hc2.mono hU1.size)
  go_wp2_with fail
  refine (rode_any _).mono ?_
  rintro e r2 ⟨rfl, rfl⟩
  have hr2 := heap_alloc_new c2 (.cells #[.int .i64 0, .int .i64 480, .int .i64 0, .int .i64 0, .int .i64 0, .int .i64 530, .int .i64 0, .int .i64 1, .int .i64 0, .int .i64 560, .int .i64 1, .int .i64 1, .int .i64 0, .int .i64 700, .int .i64 0, .int .i64 1] 70)
  have hR2 := hB2.alloc hB2.size (.cells #[.int .i64 0, .int .i64 480, .int .i64 0, .int .i64 0, .int .i64 0, .int .i64 530, .int .i64 0, .int .i64 1, .int .i64 0, .int .i64 560, .int .i64 1, .int .i64 1, .int .i64 0, .int .i64 700, .int .i64 0, .int .i64 1] 70)
  have hS2 := hT2.below ((Below.refl _ _).alloc (Nat.le_refl _) (.cells #[.int .i64 0, .int .i64 480, .int .i64 0, .int .i64 0, .int .i64 0, .int .i64 530, .int .i64 0, .int .i64 1, .int .i64 0, .int .i64 560, .int .i64 1, .int .i64 1, .int .i64 0, .int .i64 700, .int .i64 0, .int .i64 1] 70))
  generalize c2.alloc (.cells #[.int .i64 0, .int .i64 480, .int .i64 0, .int .i64 0, .int .i64 0, .int .i64 530, .int .i64 0, .int .i64 1, .int .i64 0, .int .i64 560, .int .i64 1, .int .i64 1, .int .i64 0, .int .i64 700, .int .i64 0, .int .i64 1] 70) = r2 at *
  generalize c2.heap.size = B2 at *
  go_wp2_with fail
  refine (Tickets_any cityT a2 b2 d2 _ (rodeL.take 3) r2 hS2 (rode_at hr2 (by omega)) (by decide)).mono ?_
  rintro e t2 ⟨ht2, _, hg2⟩
  obtain ⟨A2, k2, rfl, ho2⟩ := hg2 (by decide +kernel)
  have hU2 : Below w.heap.size w t2 := hR2.trans (ht2.mono hR2.size)
  clear hg2 hS2 hr2 hT2 hc2 hB2 hR2 ht2
  have v2 : (chargeT cityT (onceL (rodeL.take 3))).1 = 5 := by decide +kernel
  rw [v2]
  clear ho2 v2
  generalize (chargeT cityT (onceL (rodeL.take 3))).2.length = n2
  go_wp2_with fail
  refine (city_any _).mono ?_
  rintro e c3 ⟨a3, b3, d3, rfl, hT3, hc3⟩
  have hB3 : Below w.heap.size w c3 := hU2.trans (hc3.mono hU2.size)
  go_wp2_with fail
  refine (rode_any _).mono ?_
  rintro e r3 ⟨rfl, rfl⟩
  have hr3 := heap_alloc_new c3 (.cells #[.int .i64 0, .int .i64 480, .int .i64 0, .int .i64 0, .int .i64 0, .int .i64 530, .int .i64 0, .int .i64 1, .int .i64 0, .int .i64 560, .int .i64 1, .int .i64 1, .int .i64 0, .int .i64 700, .int .i64 0, .int .i64 1] 70)
  have hR3 := hB3.alloc hB3.size (.cells #[.int .i64 0, .int .i64 480, .int .i64 0, .int .i64 0, .int .i64 0, .int .i64 530, .int .i64 0, .int .i64 1, .int .i64 0, .int .i64 560, .int .i64 1, .int .i64 1, .int .i64 0, .int .i64 700, .int .i64 0, .int .i64 1] 70)
  have hS3 := hT3.below ((Below.refl _ _).alloc (Nat.le_refl _) (.cells #[.int .i64 0, .int .i64 480, .int .i64 0, .int .i64 0, .int .i64 0, .int .i64 530, .int .i64 0, .int .i64 1, .int .i64 0, .int .i64 560, .int .i64 1, .int .i64 1, .int .i64 0, .int .i64 700, .int .i64 0, .int .i64 1] 70))
  generalize c3.alloc (.cells #[.int .i64 0, .int .i64 480, .int .i64 0, .int .i64 0, .int .i64 0, .int .i64 530, .int .i64 0, .int .i64 1, .int .i64 0, .int .i64 560, .int .i64 1, .int .i64 1, .int .i64 0, .int .i64 700, .int .i64 0, .int .i64 1] 70) = r3 at *
  generalize c3.heap.size = B3 at *
  go_wp2_with fail
  refine (Tickets_any cityT a3 b3 d3 _ (rodeL.take 4) r3 hS3 (rode_at hr3 (by omega)) (by decide)).mono ?_
  rintro e t3 ⟨ht3, _, hg3⟩
  obtain ⟨A3, k3, rfl, ho3⟩ := hg3 (by decide +kernel)
  have hU3 : Below w.heap.size w t3 := hR3.trans (ht3.mono hR3.size)
  clear hg3 hS3 hr3 hT3 hc3 hB3 hR3 ht3
  have v3 : chargeT cityT (onceL (rodeL.take 4)) = (6, [⟨1, 0, 1, 0, 0⟩]) := by decide +kernel
  rw [v3] at ho3 ⊢
  have hk3 := tks_own ho3
  clear v3 ho3
  go_wp2_with fail
  refine (city_any _).mono ?_
  rintro e c4 ⟨a4, b4, d4, rfl, hT4, hc4⟩
  have hB4 : Below w.heap.size w c4 := hU3.trans (hc4.mono hU3.size)
  have hk4 := hk3.below hc4
  go_wp2_with fail
  refine (tapped_any _).mono ?_
  rintro e c5 ⟨B5, rfl, htp, hc5, _⟩
  have hB5 : Below w.heap.size w c5 := hB4.trans (hc5.mono hB4.size)
  have hk5 := hk4.below hc5
  have hT5 := hT4.below hc5
  clear hk3 hk4 hT4 hc4 hB4 hc5 hU1 hU2 hU3
  have hba := (Below.refl c5.heap.size c5).alloc (Nat.le_refl _) (.cells #[.int .i64 4, .int .i64 1, .int .i64 0, .int .i64 0] 3)
  have hnm := nums_new c5 [4, 1, 0, 0] 3 (by simp [maxLen])
  have hT6 := hT5.below hba
  have htp6 := htp.below hba
  have hk6 := hk5.below hba
  have hB6 := hB5.alloc hB5.size (.cells #[.int .i64 4, .int .i64 1, .int .i64 0, .int .i64 0] 3)
  have hT6' := Lib.hid hT6
  have hnm' := Lib.hid hnm
  have htp6' := Lib.hid htp6
  have hk6' := Lib.hid hk6
  have hB6' := Lib.hid hB6
  clear hT6 hnm htp6 hk6 hB6 hba htp hT5 hk5 hB5
  go_wp2_with fail
  refine (Total_any cityT a4 b4 d4 _ _ tappedL [4, 1, 0, 0] _ hT6'.out htp6'.out hnm'.out (by decide)).mono ?_
  rintro e w7 ⟨hb7, _, hg7⟩
  obtain rfl := hg7 (by decide +kernel)
  have v4 : totalLo cityT tappedL = 3 := by decide +kernel
  have v5 : totalHi cityT tappedL [4, 1, 0, 0] = 18 := by decide +kernel
  rw [v4, v5]
  have hk7 := hk6'.out.below hb7
  have hB7 := hB6'.out.trans (hb7.mono hB6'.out.size)
  clear v4 v5 hg7 hb7 hk6' hB6' hT6' hnm' htp6'
  obtain ⟨bk, ok, x, eA, hx, q0, q1, q2, q3, q4, _⟩ := TksAt.at_ (A := A3) (n := 1) (c := k3) (l := [⟨1, 0, 1, 0, 0⟩]) hk7 (k := 0) (by decide)
  subst eA
  cases hx
  simp only [Nat.zero_mul, Nat.add_zero] at q0 q1 q2 q3 q4
  have hbx : Below w7.heap.size w7 (w7.alloc (.cells #[.int .i64 3, .int .i64 18] 61)) := (Below.refl _ _).alloc (Nat.le_refl _) _
  replace q0 := cell_below hbx q0
  replace q1 := cell_below hbx q1
  replace q2 := cell_below hbx q2
  replace q3 := cell_below hbx q3
  replace q4 := cell_below hbx q4
  have hRb := heap_alloc_new w7 (.cells #[.int .i64 3, .int .i64 18] 61)
  have hB8 := hB7.alloc hB7.size (.cells #[.int .i64 3, .int .i64 18] 61)
  go_upto_region 5 with (fail)
  refine wp_name (fun V => V = w7.alloc (.cells #[.int .i64 3, .int .i64 18] 61)) rfl (fun V hV => ?_)
  rw [← hV] at q0 q1 q2 q3 q4 hRb hB8
  have p0 := box_cells hRb 0
  have p1 := box_cells hRb 1
  simp only [List.getElem?_toArray, List.getElem?_cons_zero, List.getElem?_cons_succ] at p0 p1
  clear hV hbx hRb hk7 hB7
  generalize w7.heap.size = RB at *
  have e1 : ∀ W : World, (binOp .eql 89 (.agg #[.int .u8 1, .int .i64 0, .int .i64 1, .int .i64 0, .int .i64 0]) (.agg #[.int .u8 1, .int .i64 0, .int .i64 1, .int .i64 0, .int .i64 0])).run Try.prog W = .ok (.bool true) W := fun W => by kernel_rfl
  have e2 : ∀ W : World, (binOp .eql 61 (.agg #[.int .i64 3, .int .i64 18]) (.agg #[.int .i64 3, .int .i64 18])).run Try.prog W = .ok (.bool true) W := fun W => by kernel_rfl
  have e3 : ∀ (W : World) (x y : Operand) (xs ys : Array Value), (eqGuard .eql 89 x y (.agg xs) (.agg ys)).run Try.prog W = .ok () W := fun W x y xs ys => run_eqGuard_agg W _ _ _ _ _ _ (by kernel_rfl)
  have e4 : ∀ (W : World) (x y : Operand) (xs ys : Array Value), (eqGuard .eql 61 x y (.agg xs) (.agg ys)).run Try.prog W = .ok () W := fun W x y xs ys => run_eqGuard_agg W _ _ _ _ _ _ (by kernel_rfl)
  simp only [show (((1 : Nat) : Int)) = 1 from rfl] at q0
  go_wp2
  go_ret
  exact ⟨rfl, hB8⟩
end Go.Proofs.Ytmbkpfkkohpnkaa
