import Derived.Test.YtobeffjdfhkjeaaZ
set_option linter.unusedVariables false
set_option linter.unusedSimpArgs false
namespace Go.Proofs.Ytobeffjdfhkjeaa
open Go Go.Proofs Go.RowKit

/-- The document's pool. -/
def poolL : List Strat := [⟨1000, 10, 12, [4, 3, 1]⟩, ⟨90, 6, 6, [2, 2, 2]⟩]

theorem nums_three {W : World} {b : Nat} {x y z : Int} (h0 : W.cell? ⟨b, 0, none⟩ = some (.int .i64 x)) (h1 : W.cell? ⟨b, 1, none⟩ = some (.int .i64 y)) (h2 : W.cell? ⟨b, 2, none⟩ = some (.int .i64 z)) : NumsAt .i64 W (.slice (some ⟨b, 0, none⟩) 3 3) [x, y, z] := by
  refine ⟨_, 3, rfl, by simp, by simp [maxLen], fun _ => ⟨b, 0, rfl, fun k hk => ?_⟩⟩
  match k, hk with
  | 0, _ => simpa using h0
  | 1, _ => simpa using h1
  | 2, _ => simpa using h2

theorem rows_two {W : World} {b : Nat} {u v : Value} {l m : List Int} (h0 : W.cell? ⟨b, 0, none⟩ = some u) (h1 : W.cell? ⟨b, 1, none⟩ = some v) (hu : NumsAt .i64 W u l) (hv : NumsAt .i64 W v m) : RowsAt W (.slice (some ⟨b, 0, none⟩) 2 2) [l, m] := by
  refine ⟨_, 2, rfl, by simp, by simp [maxLen], fun _ => ⟨b, 0, rfl, fun k hk => ?_⟩⟩
  match k, hk with
  | 0, _ => exact ⟨u, by simpa using h0, hu⟩
  | 1, _ => exact ⟨v, by simpa using h1, hv⟩

set_option maxRecDepth 100000 in
theorem pool_any (w : World) : Calls Try.prog 52 #[] w fun e w' => ∃ A, e = .returned (.agg #[.int .i64 3, .slice A 2 2]) ∧ StrataAt w' (.slice A 2 2) poolL ∧ Below w.heap.size w w' := by
  go_enter Try.func52, Try.ntmps52
  go_wp2
  refine bodyPost_ret (v := .agg #[.int .i64 3, .slice (some ⟨w.heap.size + 1 + 1 + 1, 0, none⟩) 2 2]) (by simp [results, Try.results52, go_sem]) rfl ⟨_, rfl, ?_, ?_⟩
  · refine ⟨_, 2, rfl, by decide, by simp [maxLen], fun _ => ⟨_, 0, rfl, fun k s hs => ?_⟩⟩
    match k, hs with
    | 0, hs =>
      cases hs
      exact ⟨_, nums_three (b := w.heap.size + 1) (by simp [go_sem]) (by simp [go_sem]) (by simp [go_sem]), by simp [go_sem], by simp [go_sem], by simp [go_sem], by simp [go_sem]⟩
    | 1, hs =>
      cases hs
      exact ⟨_, nums_three (b := w.heap.size + 1 + 1) (by simp [go_sem]) (by simp [go_sem]) (by simp [go_sem]), by simp [go_sem], by simp [go_sem], by simp [go_sem], by simp [go_sem]⟩
    | k + 2, hs => simp [poolL] at hs
  · exact ((((Below.refl _ _).alloc (Nat.le_refl _) _).alloc (by simp) _).alloc (by simp; omega) _).alloc (by simp; omega) _

theorem fault_pool : faultI 3 poolL = 0 := by decide
theorem truth_pool : truthB 3 poolL [[6, 4, 2], [2, 2, 2]] = true := by decide
theorem gets_pool : getsL 3 poolL [[6, 4, 2], [2, 2, 2]] = [530, 363, 196] := by decide
theorem fund_pool : fundI 3 poolL [[6, 4, 2], [2, 2, 2]] = 1 := by decide
theorem bound_pool : boundK poolL 0 2 = (363, 696) ∧ boundK poolL 1 2 = (280, 613) ∧ boundK poolL 2 2 = (113, 446) := by decide
theorem need_pool : needL 90 poolL = [3, 0] := by decide +kernel

set_option maxRecDepth 100000 in
set_option maxHeartbeats 3200000 in
theorem wakes_any (w : World) : Calls Try.prog 18 #[] w (Gives w (.bool true)) := by
  go_enter Try.func18, Try.ntmps18
  go_wp2_with fail
  refine (pool_any _).mono ?_; rintro e w1 ⟨A1, rfl, s1, hb1⟩
  go_wp2_with fail
  refine (Bounds_ok 3 _ poolL _ s1 fault_pool).mono ?_; rintro e w2 ⟨g, rfl, hg, ho, hb2⟩
  have r0 := (ho.c0 (c := 0) (by omega))
  have r1 := (ho.c1 (c := 0) (by omega))
  have r2 := (ho.c0 (c := 1) (by omega))
  have r3 := (ho.c1 (c := 1) (by omega))
  have r4 := (ho.c0 (c := 2) (by omega))
  have r5 := (ho.c1 (c := 2) (by omega))
  have bp := bound_pool
  simp only [show poolL.length = 2 from rfl, bp.1, bp.2.1, bp.2.2, Nat.zero_mul, Nat.one_mul, Nat.reduceMul, Nat.reduceAdd, Nat.zero_add] at r0 r1 r2 r3 r4 r5
  clear bp ho
  have hw2 := hb1.trans (hb2.mono hb1.size)
  clear s1
  go_wp2_with fail
  refine (pool_any _).mono ?_; rintro e w3 ⟨A3, rfl, s3, hb3⟩
  have hw3 := hw2.trans (hb3.mono hw2.size)
  go_wp2_with fail
  have hb4 : Below w3.heap.size w3 (((w3.alloc (.cells #[.int .i64 6, .int .i64 4, .int .i64 2] 3)).alloc (.cells #[.int .i64 2, .int .i64 2, .int .i64 2] 3)).alloc (.cells #[.slice (some ⟨w3.heap.size, 0, none⟩) 3 3, .slice (some ⟨w3.heap.size + 1, 0, none⟩) 3 3] 35)) :=
    (((Below.refl _ _).alloc (Nat.le_refl _) _).alloc (by simp) _).alloc (by simp; omega) _
  have hrows : RowsAt (((w3.alloc (.cells #[.int .i64 6, .int .i64 4, .int .i64 2] 3)).alloc (.cells #[.int .i64 2, .int .i64 2, .int .i64 2] 3)).alloc (.cells #[.slice (some ⟨w3.heap.size, 0, none⟩) 3 3, .slice (some ⟨w3.heap.size + 1, 0, none⟩) 3 3] 35))
      (.slice (some ⟨w3.heap.size + 1 + 1, 0, none⟩) 2 2) [[6, 4, 2], [2, 2, 2]] :=
    rows_two (u := .slice (some ⟨w3.heap.size, 0, none⟩) 3 3) (v := .slice (some ⟨w3.heap.size + 1, 0, none⟩) 3 3) (by simp [go_sem]) (by simp [go_sem]) (nums_three (by simp [go_sem]) (by simp [go_sem]) (by simp [go_sem])) (nums_three (by simp [go_sem]) (by simp [go_sem]) (by simp [go_sem]))
  have hget := Get_ok 3 _ _ poolL _ _ (s3.below hb4) hrows fault_pool truth_pool
  rw [gets_pool, fund_pool] at hget
  refine hget.mono ?_; rintro e w4 ⟨A4, c4, rfl, ho4, hb4'⟩
  have hw4 := hw3.trans ((hb4.trans (hb4'.mono hb4.size)).mono hw3.size)
  have n4 := nums_of_own ho4
  clear hget hrows s3 ho4
  simp only [List.length_cons, List.length_nil, Nat.reduceAdd] at n4
  go_wp2_with fail
  refine (pool_any _).mono ?_; rintro e w5 ⟨A5, rfl, s5, hb5⟩
  have hw5 := hw4.trans (hb5.mono hw4.size)
  go_wp2_with fail
  have hneed := Needed_ok 3 90 _ poolL _ s5 fault_pool (by decide)
  rw [need_pool] at hneed
  refine hneed.mono ?_; rintro e w6 ⟨A6, c6, rfl, ho6, hb6⟩
  have hw6 := hw5.trans (hb6.mono hw5.size)
  have n6 := nums_of_own ho6
  clear hneed s5 ho6
  simp only [List.length_cons, List.length_nil, Nat.reduceAdd] at n6
  have hb26 : Below w2.heap.size w2 w6 := hb3.trans ((hb4.trans ((hb4'.trans ((hb5.trans (hb6.mono hb5.size)).mono hb4'.size)).mono hb4.size)).mono hb3.size)
  replace r0 := cell_below hb26 r0
  replace r1 := cell_below hb26 r1
  replace r2 := cell_below hb26 r2
  replace r3 := cell_below hb26 r3
  replace r4 := cell_below hb26 r4
  replace r5 := cell_below hb26 r5
  have n46 := n4.below ((hb5.trans (hb6.mono hb5.size)))
  clear n4 hb26
  go_wp2_with fail
  have hb7 : Below w6.heap.size w6 (w6.alloc (.cells #[.int .i64 530, .int .i64 363, .int .i64 196] 3)) := (Below.refl _ _).alloc (Nat.le_refl _) _
  have h33 := ints_any _ _ _ _ _ (n46.below hb7) (nums_three (W := w6.alloc (.cells #[.int .i64 530, .int .i64 363, .int .i64 196] 3)) (b := w6.heap.size) (x := 530) (y := 363) (z := 196) (by simp [go_sem]) (by simp [go_sem]) (by simp [go_sem]))
  refine (Gives.to (b := true) (by decide) h33).mono ?_; rintro e w7 ⟨rfl, hb7'⟩
  have hb67 := hb7.trans (hb7'.mono hb7.size)
  have hw7 := hw6.trans (hb67.mono hw6.size)
  have n7 := n6.below hb67
  clear n46 n6 h33
  go_wp2_with fail
  have hb8 : Below w7.heap.size w7 (w7.alloc (.cells #[.int .i64 3, .int .i64 0] 3)) := (Below.refl _ _).alloc (Nat.le_refl _) _
  have h34 := ints_any _ _ _ _ _ (n7.below hb8) (nums_two (W := w7.alloc (.cells #[.int .i64 3, .int .i64 0] 3)) (b := w7.heap.size) (x := 3) (y := 0) (by simp [go_sem]) (by simp [go_sem]))
  refine (Gives.to (b := true) (by decide) h34).mono ?_; rintro e w8 ⟨rfl, hb8'⟩
  have hw8 := hw7.trans ((hb8.trans (hb8'.mono hb8.size)).mono hw7.size)
  clear h34 n7
  go_wp2
  go_ret
  exact ⟨rfl, hw8⟩
end Go.Proofs.Ytobeffjdfhkjeaa
