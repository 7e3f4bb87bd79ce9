import Derived.Test.YtobeffjdfhkjeaaDe
import Derived.Test.YtobeffjdfhkjeaaNe
import Derived.Test.YtobeffjdfhkjeaaWd
import Derived.Test.YtobeffjdfhkjeaaWake
set_option linter.unusedVariables false
set_option linter.unusedSimpArgs false
namespace Go.Proofs.Ytobeffjdfhkjeaa
open Go Go.Proofs Go.RowKit

theorem rows_oneN {W : World} {b : Nat} {u : Value} {l : List Int} (h0 : W.cell? ⟨b, 0, none⟩ = some u) (hu : NumsAt .i64 W u l) : RowsAt W (.slice (some ⟨b, 0, none⟩) 1 1) [l] := by
  refine ⟨_, 1, rfl, by simp, by simp [maxLen], fun _ => ⟨b, 0, rfl, fun k hk => ?_⟩⟩
  match k, hk with
  | 0, _ => exact ⟨u, by simpa using h0, hu⟩
theorem nums_one {W : World} {b : Nat} {x : Int} (h0 : W.cell? ⟨b, 0, none⟩ = some (.int .i64 x)) : NumsAt .i64 W (.slice (some ⟨b, 0, none⟩) 1 1) [x] := by
  refine ⟨_, 1, rfl, by simp, by simp [maxLen], fun _ => ⟨b, 0, rfl, fun k hk => ?_⟩⟩
  match k, hk with
  | 0, _ => simpa using h0
theorem nums_nil {K : IntKind} {W : World} : NumsAt K W (.slice none 0 0) [] := ⟨none, 0, rfl, by simp, by simp [maxLen], fun h => by simp at h⟩
theorem strata_nil {W : World} : StrataAt W (.slice none 0 0) [] := ⟨none, 0, rfl, by simp, by simp [maxLen], fun h => by simp at h⟩
def b3 (w : World) (x y z : Int) : World := w.alloc (.cells #[.int .i64 x, .int .i64 y, .int .i64 z] 3)
theorem b3_below (w : World) (x y z : Int) : Below w.heap.size w (b3 w x y z) := (Below.refl _ _).alloc (Nat.le_refl _) _
theorem b3_nums (w : World) (x y z : Int) : NumsAt .i64 (b3 w x y z) (.slice (some ⟨w.heap.size, 0, none⟩) 3 3) [x, y, z] := nums_three (by simp [b3, go_sem]) (by simp [b3, go_sem]) (by simp [b3, go_sem])
theorem b2_nums (w : World) (x y : Int) : NumsAt .i64 (w.alloc (.cells #[.int .i64 x, .int .i64 y] 3)) (.slice (some ⟨w.heap.size, 0, none⟩) 2 2) [x, y] := nums_two (by simp [go_sem]) (by simp [go_sem])
theorem b1_nums (w : World) (x : Int) : NumsAt .i64 (w.alloc (.cells #[.int .i64 x] 3)) (.slice (some ⟨w.heap.size, 0, none⟩) 1 1) [x] := nums_one (by simp [go_sem])
theorem two_rows (w : World) (x y z a b c : Int) : RowsAt (((w.alloc (.cells #[.int .i64 x, .int .i64 y, .int .i64 z] 3)).alloc (.cells #[.int .i64 a, .int .i64 b, .int .i64 c] 3)).alloc (.cells #[.slice (some ⟨w.heap.size, 0, none⟩) 3 3, .slice (some ⟨w.heap.size + 1, 0, none⟩) 3 3] 35))
      (.slice (some ⟨w.heap.size + 1 + 1, 0, none⟩) 2 2) [[x, y, z], [a, b, c]] :=
    rows_two (u := .slice (some ⟨w.heap.size, 0, none⟩) 3 3) (v := .slice (some ⟨w.heap.size + 1, 0, none⟩) 3 3) (by simp [go_sem]) (by simp [go_sem]) (nums_three (by simp [go_sem]) (by simp [go_sem]) (by simp [go_sem])) (nums_three (by simp [go_sem]) (by simp [go_sem]) (by simp [go_sem]))
theorem two_below (w : World) (x y z a b c : Int) : Below w.heap.size w (((w.alloc (.cells #[.int .i64 x, .int .i64 y, .int .i64 z] 3)).alloc (.cells #[.int .i64 a, .int .i64 b, .int .i64 c] 3)).alloc (.cells #[.slice (some ⟨w.heap.size, 0, none⟩) 3 3, .slice (some ⟨w.heap.size + 1, 0, none⟩) 3 3] 35)) :=
    (((Below.refl _ _).alloc (Nat.le_refl _) _).alloc (by simp) _).alloc (by simp; omega) _
theorem one_rows (w : World) (x y z : Int) : RowsAt ((w.alloc (.cells #[.int .i64 x, .int .i64 y, .int .i64 z] 3)).alloc (.cells #[.slice (some ⟨w.heap.size, 0, none⟩) 3 3] 35)) (.slice (some ⟨w.heap.size + 1, 0, none⟩) 1 1) [[x, y, z]] :=
    rows_oneN (u := .slice (some ⟨w.heap.size, 0, none⟩) 3 3) (by simp [go_sem]) (nums_three (by simp [go_sem]) (by simp [go_sem]) (by simp [go_sem]))
theorem one_below (w : World) (x y z : Int) : Below w.heap.size w ((w.alloc (.cells #[.int .i64 x, .int .i64 y, .int .i64 z] 3)).alloc (.cells #[.slice (some ⟨w.heap.size, 0, none⟩) 3 3] 35)) :=
    ((Below.refl _ _).alloc (Nat.le_refl _) _).alloc (by simp) _

/-- The cells of the document's pool. -/
structure PoolCells (W : World) (n : Nat) : Prop where
  c0 : W.cell? ⟨n + 1 + 1 + 1, 0, none⟩ = some (.int .i64 1000)
  c1 : W.cell? ⟨n + 1 + 1 + 1, 1, none⟩ = some (.int .i64 10)
  c2 : W.cell? ⟨n + 1 + 1 + 1, 2, none⟩ = some (.int .i64 12)
  c3 : W.cell? ⟨n + 1 + 1 + 1, 3, none⟩ = some (.slice (some ⟨n + 1, 0, none⟩) 3 3)
  c4 : W.cell? ⟨n + 1 + 1 + 1, 4, none⟩ = some (.int .i64 90)
  c5 : W.cell? ⟨n + 1 + 1 + 1, 5, none⟩ = some (.int .i64 6)
  c6 : W.cell? ⟨n + 1 + 1 + 1, 6, none⟩ = some (.int .i64 6)
  c7 : W.cell? ⟨n + 1 + 1 + 1, 7, none⟩ = some (.slice (some ⟨n + 1 + 1, 0, none⟩) 3 3)
  s0 : W.cell? ⟨n + 1, 0, none⟩ = some (.int .i64 4)
  s1 : W.cell? ⟨n + 1, 1, none⟩ = some (.int .i64 3)
  s2 : W.cell? ⟨n + 1, 2, none⟩ = some (.int .i64 1)
  t0 : W.cell? ⟨n + 1 + 1, 0, none⟩ = some (.int .i64 2)
  t1 : W.cell? ⟨n + 1 + 1, 1, none⟩ = some (.int .i64 2)
  t2 : W.cell? ⟨n + 1 + 1, 2, none⟩ = some (.int .i64 2)
  f : W.frozen? ⟨n + 1, 0, none⟩ = false
set_option maxRecDepth 100000 in
theorem pool_cells (w : World) : Calls Try.prog 52 #[] w fun e w' => e = .returned (.agg #[.int .i64 3, .slice (some ⟨w.heap.size + 1 + 1 + 1, 0, none⟩) 2 2]) ∧ PoolCells w' w.heap.size ∧ Below w.heap.size w w' := by
  go_enter Try.func52, Try.ntmps52
  go_wp2
  refine bodyPost_ret (v := .agg #[.int .i64 3, .slice (some ⟨w.heap.size + 1 + 1 + 1, 0, none⟩) 2 2]) (by simp [results, Try.results52, go_sem]) rfl ⟨rfl, ?_, ?_⟩
  · constructor <;> simp [go_sem]
  · exact ((((Below.refl _ _).alloc (Nat.le_refl _) _).alloc (by simp) _).alloc (by simp; omega) _).alloc (by simp; omega) _

def oddL : List Strat := [⟨1000, 10, 12, [7, 3, 1]⟩, ⟨90, 6, 6, [2, 2, 2]⟩]
theorem strata_odd {W : World} {n : Nat} (h : PoolCells W n) : StrataAt (W.setCell ⟨n + 1, 0, none⟩ (.int .i64 7)) (.slice (some ⟨n + 1 + 1 + 1, 0, none⟩) 2 2) oddL := by
  have k : ∀ (p : Addr) (u : Value), p ≠ ⟨n + 1, 0, none⟩ → W.cell? p = some u → (W.setCell ⟨n + 1, 0, none⟩ (.int .i64 7)).cell? p = some u := fun p u hp hc => (World.cell?_setCell_other _ _ _ _ (Ne.symm hp)).trans hc
  refine ⟨_, 2, rfl, by decide, by simp [maxLen], fun _ => ⟨_, 0, rfl, fun j s hs => ?_⟩⟩
  match j, hs with
  | 0, hs =>
    cases hs
    exact ⟨_, nums_three (b := n + 1) (World.cell?_setCell_same' _ _ _ (by rw [h.s0]; rfl)) (k _ _ (by simp) h.s1) (k _ _ (by simp) h.s2), k _ _ (by simp) h.c0, k _ _ (by simp) h.c1, k _ _ (by simp) h.c2, k _ _ (by simp) h.c3⟩
  | 1, hs =>
    cases hs
    exact ⟨_, nums_three (b := n + 1 + 1) (k _ _ (by simp) h.t0) (k _ _ (by simp) h.t1) (k _ _ (by simp) h.t2), k _ _ (by simp) h.c4, k _ _ (by simp) h.c5, k _ _ (by simp) h.c6, k _ _ (by simp) h.c7⟩
  | j + 2, hs => simp [oddL] at hs

def noneL : List Strat := List.replicate 9 Strat.none
theorem strata_many {W : World} {base : Nat} {v : Value} (h : W.ownsRow base 86 4 v 9 (List.replicate 9 [Value.int .i64 0, .int .i64 0, .int .i64 0, .slice none 0 0]).flatten) : StrataAt W v noneL := by
  refine strata_of_own (base' := 0) h ⟨by simp [noneL], fun j s hs => ?_⟩
  have hj : j < 9 := by have := (List.getElem?_eq_some_iff.1 hs).1; simpa [noneL] using this
  have hs' : s = Strat.none := by
    have : s ∈ noneL := List.mem_of_getElem? hs
    exact (List.mem_replicate.1 this).2
  subst hs'
  have : j = 0 ∨ j = 1 ∨ j = 2 ∨ j = 3 ∨ j = 4 ∨ j = 5 ∨ j = 6 ∨ j = 7 ∨ j = 8 := by omega
  rcases this with rfl | rfl | rfl | rfl | rfl | rfl | rfl | rfl | rfl <;>
    exact ⟨rfl, rfl, rfl, _, rfl, World.ownsRow_nil _ _ _ _⟩

set_option maxRecDepth 100000 in
set_option maxHeartbeats 6400000 in
theorem Names_law (w : World) : Calls Try.prog 15 #[] w (Gives w (.bool true)) := by
  obtain ⟨i3, hi3, hx0, hx1, hx2⟩ := info_parts info3
  obtain ⟨i86, hi86, hy0, hy1, hy2⟩ := info_parts info86
  have hb0 : Below w.heap.size w w := Below.refl _ _
  go_enter Try.func15, Try.ntmps15
  go_wp2_with fail
  have hc1 := pool_any w
  refine hc1.mono ?_; rintro e w1 ⟨A1, rfl, s1, hb1⟩
  clear hc1
  have hw1 := hb0.trans (hb1.mono hb0.size)
  go_wp2_with fail
  have hc2 := (by have h := Get_ok 3 _ _ poolL _ _ (s1.below (two_below w1 5 4 1 2 2 2)) (two_rows w1 5 4 1 2 2 2) fault_pool (by decide +kernel); rwa [show getsL 3 poolL [[5, 4, 1], [2, 2, 2]] = [530, 430, 130] by decide +kernel, show fundI 3 poolL [[5, 4, 1], [2, 2, 2]] = 0 by decide +kernel] at h)
  refine hc2.mono ?_; rintro e w2 ⟨A2, c2, rfl, o2, hq2⟩
  clear hc2
  have hb2 := (two_below w1 5 4 1 2 2 2).trans (hq2.mono (two_below w1 5 4 1 2 2 2).size)
  have hw2 := hw1.trans (hb2.mono hw1.size)
  have n2 := nums_of_own o2
  simp only [List.length_cons, List.length_nil, Nat.reduceAdd] at n2 ⊢
  clear o2
  go_wp2_with fail
  have hc3 := pool_any w2
  refine hc3.mono ?_; rintro e w3 ⟨A3, rfl, s3, hb3⟩
  clear hc3
  have hw3 := hw2.trans (hb3.mono hw2.size)
  replace n2 := n2.below hb3
  go_wp2_with fail
  have hc4 := (by have h := Widest_any 3 _ poolL _ s3 fault_pool; rwa [show widK poolL poolL.length = (0, 333) by decide +kernel, if_neg (by decide)] at h)
  refine hc4.mono ?_; rintro e w4 ⟨rfl, hb4⟩
  clear hc4
  have hw4 := hw3.trans (hb4.mono hw3.size)
  replace n2 := n2.below hb4
  go_wp2_with fail
  have hc5 := pool_any w4
  refine hc5.mono ?_; rintro e w5 ⟨A5, rfl, s5, hb5⟩
  clear hc5
  have hw5 := hw4.trans (hb5.mono hw4.size)
  replace n2 := n2.below hb5
  go_wp2_with fail
  have hc6 := (by have h := Refused_ok 3 _ _ poolL _ _ (s5.below (two_below w5 6 4 2 2 2 2)) (two_rows w5 6 4 2 2 2 2) fault_pool (by decide +kernel); rwa [show refusedL poolL [[6, 4, 2], [2, 2, 2]] poolL.length = [] by decide +kernel] at h)
  refine hc6.mono ?_; rintro e w6 ⟨A6, c6, rfl, o6, hq6⟩
  clear hc6
  have hb6 := (two_below w5 6 4 2 2 2 2).trans (hq6.mono (two_below w5 6 4 2 2 2 2).size)
  have hw6 := hw5.trans (hb6.mono hw5.size)
  replace n2 := n2.below hb6
  simp only [List.length_nil]
  clear o6
  go_wp2_with fail
  have hc7 := pool_any w6
  refine hc7.mono ?_; rintro e w7 ⟨A7, rfl, s7, hb7⟩
  clear hc7
  have hw7 := hw6.trans (hb7.mono hw6.size)
  replace n2 := n2.below hb7
  go_wp2_with fail
  have hc8 := (by have h := Refused_ok 3 _ _ poolL _ _ (s7.below (two_below w7 3 4 4 2 2 3)) (two_rows w7 3 4 4 2 2 3) fault_pool (by decide +kernel); rwa [show refusedL poolL [[3, 4, 4], [2, 2, 3]] poolL.length = [0, 1] by decide +kernel] at h)
  refine hc8.mono ?_; rintro e w8 ⟨A8, c8, rfl, o8, hq8⟩
  clear hc8
  have hb8 := (two_below w7 3 4 4 2 2 3).trans (hq8.mono (two_below w7 3 4 4 2 2 3).size)
  have hw8 := hw7.trans (hb8.mono hw7.size)
  replace n2 := n2.below hb8
  have n8 := nums_of_own o8
  simp only [List.length_cons, List.length_nil, Nat.reduceAdd] at n8 ⊢
  clear o8
  go_wp2_with fail
  have hc9 := Divide_ok 100 _ [1, 1, 1] _ (b3_nums w8 1 1 1) (divOk_of (by decide +kernel))
  refine hc9.mono ?_; rintro e w9 ⟨A9, c9, rfl, o9, hq9⟩
  clear hc9
  have hb9 := (b3_below w8 1 1 1).trans (hq9.mono (b3_below w8 1 1 1).size)
  have hw9 := hw8.trans (hb9.mono hw8.size)
  replace n2 := n2.below hb9
  replace n8 := n8.below hb9
  have e9 : rowF ([1, 1, 1] : List Int).length (divAt 100 [1, 1, 1] (leftAll 100 [1, 1, 1]).toNat) = ([34, 33, 33] : List Int).map (.int .i64) := by rw [rowF_map]; exact congrArg _ (by decide +kernel)
  rw [e9] at o9
  have n9 := nums_of_own o9
  simp only [List.length_cons, List.length_nil, Nat.reduceAdd] at n9 ⊢
  clear o9 e9
  go_wp2_with fail
  have hc10 := Divide_ok 7 _ [3, 0, 4] _ (b3_nums w9 3 0 4) (divOk_of (by decide +kernel))
  refine hc10.mono ?_; rintro e w10 ⟨A10, c10, rfl, o10, hq10⟩
  clear hc10
  have hb10 := (b3_below w9 3 0 4).trans (hq10.mono (b3_below w9 3 0 4).size)
  have hw10 := hw9.trans (hb10.mono hw9.size)
  replace n2 := n2.below hb10
  replace n8 := n8.below hb10
  replace n9 := n9.below hb10
  have e10 : rowF ([3, 0, 4] : List Int).length (divAt 7 [3, 0, 4] (leftAll 7 [3, 0, 4]).toNat) = ([3, 0, 4] : List Int).map (.int .i64) := by rw [rowF_map]; exact congrArg _ (by decide +kernel)
  rw [e10] at o10
  have n10 := nums_of_own o10
  simp only [List.length_cons, List.length_nil, Nat.reduceAdd] at n10 ⊢
  clear o10 e10
  go_wp2_with fail
  have hc11 := Divide_ok 5 _ [0, 0] _ (b2_nums w10 0 0) (divOk_of (by decide +kernel))
  refine hc11.mono ?_; rintro e w11 ⟨A11, c11, rfl, o11, hq11⟩
  clear hc11
  have hb11 := (show Below w10.heap.size w10 (w10.alloc (.cells #[.int .i64 0, .int .i64 0] 3)) from (Below.refl _ _).alloc (Nat.le_refl _) _).trans (hq11.mono (show Below w10.heap.size w10 (w10.alloc (.cells #[.int .i64 0, .int .i64 0] 3)) from (Below.refl _ _).alloc (Nat.le_refl _) _).size)
  have hw11 := hw10.trans (hb11.mono hw10.size)
  replace n2 := n2.below hb11
  replace n8 := n8.below hb11
  replace n9 := n9.below hb11
  replace n10 := n10.below hb11
  have e11 : rowF ([0, 0] : List Int).length (divAt 5 [0, 0] (leftAll 5 [0, 0]).toNat) = ([3, 2] : List Int).map (.int .i64) := by rw [rowF_map]; exact congrArg _ (by decide +kernel)
  rw [e11] at o11
  have n11 := nums_of_own o11
  simp only [List.length_cons, List.length_nil, Nat.reduceAdd] at n11 ⊢
  clear o11 e11
  go_wp2_with fail
  have hc12 := Gives.to (b := true) (by decide) (ints_any _ _ _ _ _ (n2.below (b3_below w11 530 430 130)) (b3_nums w11 530 430 130))
  refine hc12.mono ?_; rintro e w12 ⟨rfl, hq12⟩
  clear hc12
  have hb12 := (b3_below w11 530 430 130).trans (hq12.mono (b3_below w11 530 430 130).size)
  have hw12 := hw11.trans (hb12.mono hw11.size)
  replace n8 := n8.below hb12
  replace n9 := n9.below hb12
  replace n10 := n10.below hb12
  replace n11 := n11.below hb12
  clear n2
  go_wp2_with fail
  have hc13 := Gives.to (b := true) (by decide) (ints_any _ _ _ _ _ (n8.below (show Below w12.heap.size w12 (w12.alloc (.cells #[.int .i64 0, .int .i64 1] 3)) from (Below.refl _ _).alloc (Nat.le_refl _) _)) (b2_nums w12 0 1))
  refine hc13.mono ?_; rintro e w13 ⟨rfl, hq13⟩
  clear hc13
  have hb13 := (show Below w12.heap.size w12 (w12.alloc (.cells #[.int .i64 0, .int .i64 1] 3)) from (Below.refl _ _).alloc (Nat.le_refl _) _).trans (hq13.mono (show Below w12.heap.size w12 (w12.alloc (.cells #[.int .i64 0, .int .i64 1] 3)) from (Below.refl _ _).alloc (Nat.le_refl _) _).size)
  have hw13 := hw12.trans (hb13.mono hw12.size)
  replace n9 := n9.below hb13
  replace n10 := n10.below hb13
  replace n11 := n11.below hb13
  clear n8
  go_wp2_with fail
  have hc14 := Gives.to (b := true) (by decide) (ints_any _ _ _ _ _ (n9.below (b3_below w13 34 33 33)) (b3_nums w13 34 33 33))
  refine hc14.mono ?_; rintro e w14 ⟨rfl, hq14⟩
  clear hc14
  have hb14 := (b3_below w13 34 33 33).trans (hq14.mono (b3_below w13 34 33 33).size)
  have hw14 := hw13.trans (hb14.mono hw13.size)
  replace n10 := n10.below hb14
  replace n11 := n11.below hb14
  clear n9
  go_wp2_with fail
  have hc15 := Gives.to (b := true) (by decide) (ints_any _ _ _ _ _ (n10.below (b3_below w14 3 0 4)) (b3_nums w14 3 0 4))
  refine hc15.mono ?_; rintro e w15 ⟨rfl, hq15⟩
  clear hc15
  have hb15 := (b3_below w14 3 0 4).trans (hq15.mono (b3_below w14 3 0 4).size)
  have hw15 := hw14.trans (hb15.mono hw14.size)
  replace n11 := n11.below hb15
  clear n10
  go_wp2_with fail
  have hc16 := Gives.to (b := true) (by decide) (ints_any _ _ _ _ _ (n11.below (show Below w15.heap.size w15 (w15.alloc (.cells #[.int .i64 3, .int .i64 2] 3)) from (Below.refl _ _).alloc (Nat.le_refl _) _)) (b2_nums w15 3 2))
  refine hc16.mono ?_; rintro e w16 ⟨rfl, hq16⟩
  clear hc16
  have hb16 := (show Below w15.heap.size w15 (w15.alloc (.cells #[.int .i64 3, .int .i64 2] 3)) from (Below.refl _ _).alloc (Nat.le_refl _) _).trans (hq16.mono (show Below w15.heap.size w15 (w15.alloc (.cells #[.int .i64 3, .int .i64 2] 3)) from (Below.refl _ _).alloc (Nat.le_refl _) _).size)
  have hw16 := hw15.trans (hb16.mono hw15.size)
  clear n11
  go_wp2_with fail
  have hc17 := pool_any w16
  refine hc17.mono ?_; rintro e w17 ⟨A17, rfl, s17, hb17⟩
  clear hc17
  have hw17 := hw16.trans (hb17.mono hw16.size)
  go_wp2_with fail
  have hc18 := Gives.to (b := true) (by decide +kernel) (PN_any 3 90 _ _ poolL _ _ (s17.below (show Below w17.heap.size w17 (w17.alloc (.cells #[.int .i64 3, .int .i64 0] 3)) from (Below.refl _ _).alloc (Nat.le_refl _) _)) (b2_nums w17 3 0) fault_pool (by decide))
  refine hc18.mono ?_; rintro e w18 ⟨rfl, hq18⟩
  clear hc18
  have hb18 := (show Below w17.heap.size w17 (w17.alloc (.cells #[.int .i64 3, .int .i64 0] 3)) from (Below.refl _ _).alloc (Nat.le_refl _) _).trans (hq18.mono (show Below w17.heap.size w17 (w17.alloc (.cells #[.int .i64 3, .int .i64 0] 3)) from (Below.refl _ _).alloc (Nat.le_refl _) _).size)
  have hw18 := hw17.trans (hb18.mono hw17.size)
  go_wp2_with fail
  have hc19 := pool_any w18
  refine hc19.mono ?_; rintro e w19 ⟨A19, rfl, s19, hb19⟩
  clear hc19
  have hw19 := hw18.trans (hb19.mono hw18.size)
  go_wp2_with fail
  have hc20 := Gives.to (b := false) (by decide +kernel) (PN_any 3 90 _ _ poolL _ _ (s19.below (show Below w19.heap.size w19 (w19.alloc (.cells #[.int .i64 2, .int .i64 0] 3)) from (Below.refl _ _).alloc (Nat.le_refl _) _)) (b2_nums w19 2 0) fault_pool (by decide))
  refine hc20.mono ?_; rintro e w20 ⟨rfl, hq20⟩
  clear hc20
  have hb20 := (show Below w19.heap.size w19 (w19.alloc (.cells #[.int .i64 2, .int .i64 0] 3)) from (Below.refl _ _).alloc (Nat.le_refl _) _).trans (hq20.mono (show Below w19.heap.size w19 (w19.alloc (.cells #[.int .i64 2, .int .i64 0] 3)) from (Below.refl _ _).alloc (Nat.le_refl _) _).size)
  have hw20 := hw19.trans (hb20.mono hw19.size)
  go_wp2_with fail
  have hc21 := pool_any w20
  refine hc21.mono ?_; rintro e w21 ⟨A21, rfl, s21, hb21⟩
  clear hc21
  have hw21 := hw20.trans (hb21.mono hw20.size)
  go_wp2_with fail
  have hc22 := Gives.to (b := false) (by decide +kernel) (PN_any 3 90 _ _ poolL _ _ (s21.below (show Below w21.heap.size w21 (w21.alloc (.cells #[.int .i64 3, .int .i64 1] 3)) from (Below.refl _ _).alloc (Nat.le_refl _) _)) (b2_nums w21 3 1) fault_pool (by decide))
  refine hc22.mono ?_; rintro e w22 ⟨rfl, hq22⟩
  clear hc22
  have hb22 := (show Below w21.heap.size w21 (w21.alloc (.cells #[.int .i64 3, .int .i64 1] 3)) from (Below.refl _ _).alloc (Nat.le_refl _) _).trans (hq22.mono (show Below w21.heap.size w21 (w21.alloc (.cells #[.int .i64 3, .int .i64 1] 3)) from (Below.refl _ _).alloc (Nat.le_refl _) _).size)
  have hw22 := hw21.trans (hb22.mono hw21.size)
  go_wp2_with fail
  have hc23 := pool_any w22
  refine hc23.mono ?_; rintro e w23 ⟨A23, rfl, s23, hb23⟩
  clear hc23
  have hw23 := hw22.trans (hb23.mono hw22.size)
  go_wp2_with fail
  have hc24 := Get_range 3 _ _ poolL _ _ (s23.below (two_below w23 5 4 0 2 2 2)) (two_rows w23 5 4 0 2 2 2) fault_pool (by decide +kernel)
  refine hc24.mono ?_; rintro e w24 ⟨rfl, hq24⟩
  clear hc24
  have hb24 := (two_below w23 5 4 0 2 2 2).trans (hq24.mono (two_below w23 5 4 0 2 2 2).size)
  have hw24 := hw23.trans (hb24.mono hw23.size)
  go_wp2_with fail
  have hc25 := pool_any w24
  refine hc25.mono ?_; rintro e w25 ⟨A25, rfl, s25, hb25⟩
  clear hc25
  have hw25 := hw24.trans (hb25.mono hw24.size)
  go_wp2_with fail
  have hc26 := Refused_range 3 _ _ poolL _ _ (s25.below (one_below w25 5 4 1)) (one_rows w25 5 4 1) fault_pool (by decide +kernel)
  refine hc26.mono ?_; rintro e w26 ⟨rfl, hq26⟩
  clear hc26
  have hb26 := (one_below w25 5 4 1).trans (hq26.mono (one_below w25 5 4 1).size)
  have hw26 := hw25.trans (hb26.mono hw25.size)
  go_wp2_with fail
  have hc27 := Widest_any 1 _ [] w26 strata_nil (by decide)
  refine hc27.mono ?_; rintro e w27 ⟨rfl, hb27⟩
  clear hc27
  have hw27 := hw26.trans (hb27.mono hw26.size)
  simp only [List.length_nil, if_true, widK]
  go_wp2_with fail
  have hc28 := pool_any w27
  refine hc28.mono ?_; rintro e w28 ⟨A28, rfl, s28, hb28⟩
  clear hc28
  have hw28 := hw27.trans (hb28.mono hw27.size)
  go_wp2_with fail
  have hc29 := Needed_range 3 0 _ poolL _ s28 fault_pool (by decide)
  refine hc29.mono ?_; rintro e w29 ⟨rfl, hb29⟩
  clear hc29
  have hw29 := hw28.trans (hb29.mono hw28.size)
  go_wp2_with (at_make; refine wpList_make_full _ rfl _ _ 35 rfl w29.heap.size 3 i3 _ 1 Try.underlying35 hi3 hx0 hx1 _ _ _ _ 6 rfl rfl rfl rfl (by rw [hx2]; omega) (by simp [maxLen]) (Nat.le_refl _) ?_; intro wm ownm hgm)
  have hbm : Below w29.heap.size w29 wm := (Below.refl _ _).grown hgm (Nat.le_refl _) (by simp)
  have hmk : (madeCells (Value.int .i64 0).cells (6 * 1)).toList = ([0, 0, 0, 0, 0, 0] : List Int).map (.int .i64) := toList_madeCells_one _ _
  rw [hmk] at ownm
  have nm : NumsAt .i64 wm (.slice (some ⟨w29.heap.size, 0, none⟩) 6 6) [0, 0, 0, 0, 0, 0] := nums_of_own (l := [0, 0, 0, 0, 0, 0]) ownm
  clear ownm hgm hmk
  have hw30 := hw29.trans (hbm.mono hw29.size)
  go_wp2_with fail
  have hc31 := (by have h := Divide_fault 5 _ _ _ nm (by decide +kernel); rwa [show divFault 5 [0, 0, 0, 0, 0, 0] = 3 by decide +kernel] at h)
  refine hc31.mono ?_; rintro e w31 ⟨rfl, hb31⟩
  clear hc31
  have hw31 := hw30.trans (hb31.mono hw30.size)
  clear nm
  go_wp2_with fail
  have hc32 := (by have h := Divide_fault 5 _ _ w31 nums_nil (by decide +kernel); rwa [show divFault 5 [] = 1 by decide +kernel] at h)
  refine hc32.mono ?_; rintro e w32 ⟨rfl, hb32⟩
  clear hc32
  have hw32 := hw31.trans (hb32.mono hw31.size)
  go_wp2_with fail
  have hc33 := (by have h := Divide_fault (-1) _ _ _ (b1_nums w32 1) (by decide +kernel); rwa [show divFault (-1) [1] = 2 by decide +kernel] at h)
  refine hc33.mono ?_; rintro e w33 ⟨rfl, hq33⟩
  clear hc33
  have hb33 := (show Below w32.heap.size w32 (w32.alloc (.cells #[.int .i64 1] 3)) from (Below.refl _ _).alloc (Nat.le_refl _) _).trans (hq33.mono (show Below w32.heap.size w32 (w32.alloc (.cells #[.int .i64 1] 3)) from (Below.refl _ _).alloc (Nat.le_refl _) _).size)
  have hw33 := hw32.trans (hb33.mono hw32.size)
  go_wp2_with fail
  have hc34 := pool_cells w33
  refine hc34.mono ?_; rintro e w34 ⟨rfl, pc34, hb34⟩
  clear hc34
  have hw34 := hw33.trans (hb34.mono hw33.size)
  obtain ⟨wz, rfl⟩ : ∃ wz : World, wz = w33 := ⟨_, rfl⟩
  have hz0 := pc34.c0
  have hz3 := pc34.c3
  have hs0 := pc34.s0
  have hf0 := pc34.f
  have hlt1 := World.block_lt_of_cell? _ _ hs0
  have hlt0 := World.block_lt_of_cell? _ _ hz0
  dsimp only at hlt1 hlt0
  go_wp2_with fail
  have hbA : Below wz.heap.size wz ((w34.setCell ⟨wz.heap.size + 1, 0, none⟩ (.int .i64 7)).alloc (.cells #[.int .i64 3, .slice (some ⟨wz.heap.size + 1 + 1 + 1, 0, none⟩) 2 2] 33)) :=
    (hb34.setCell (p := ⟨wz.heap.size + 1, 0, none⟩) (by simp) _).alloc (by simp; omega) _
  have odd : StrataAt ((w34.setCell ⟨wz.heap.size + 1, 0, none⟩ (.int .i64 7)).alloc (.cells #[.int .i64 3, .slice (some ⟨wz.heap.size + 1 + 1 + 1, 0, none⟩) 2 2] 33)) (.slice (some ⟨wz.heap.size + 1 + 1 + 1, 0, none⟩) 2 2) oddL :=
    (strata_odd pc34).below ((Below.refl _ _).alloc (Nat.le_refl _) _)
  have o0 : ((w34.setCell ⟨wz.heap.size + 1, 0, none⟩ (.int .i64 7)).alloc (.cells #[.int .i64 3, .slice (some ⟨wz.heap.size + 1 + 1 + 1, 0, none⟩) 2 2] 33)).cell? ⟨w34.heap.size, 0, none⟩ = some (.int .i64 3) := by simp [go_sem]
  have o1 : ((w34.setCell ⟨wz.heap.size + 1, 0, none⟩ (.int .i64 7)).alloc (.cells #[.int .i64 3, .slice (some ⟨wz.heap.size + 1 + 1 + 1, 0, none⟩) 2 2] 33)).cell? ⟨w34.heap.size, 1, none⟩ = some (.slice (some ⟨wz.heap.size + 1 + 1 + 1, 0, none⟩) 2 2) := by simp [go_sem]
  obtain ⟨wa, hwa⟩ : ∃ wa, (w34.setCell ⟨wz.heap.size + 1, 0, none⟩ (.int .i64 7)).alloc (.cells #[.int .i64 3, .slice (some ⟨wz.heap.size + 1 + 1 + 1, 0, none⟩) 2 2] 33) = wa := ⟨_, rfl⟩
  rw [hwa] at hbA odd o0 o1 ⊢
  have hwA := hw33.trans (hbA.mono hw33.size)
  clear hwa hz0 hz3 hs0 hf0 pc34
  refine (pool_any wa).mono ?_; rintro e wc ⟨Ac, rfl, sc, hbc⟩
  have hwC := hwA.trans (hbc.mono hwA.size)
  replace odd := odd.below hbc
  replace o0 := cell_below hbc o0
  replace o1 := cell_below hbc o1
  have hsw : w34.heap.size < wc.heap.size := by have := World.block_lt_of_cell? _ _ o0; simpa using this
  go_upto_region 21 with (at_make; refine wpList_make_full _ rfl _ _ 31 rfl (wc.heap.size + 1) 86 i86 _ 4 Try.underlying31 hi86 hy0 hy1 _ _ _ _ 9 rfl rfl rfl rfl (by simp [hy2]) (by simp [maxLen]) (by simp) ?_; intro wd ownd hgd; have hbd : Below (wc.heap.size + 1) (wc.alloc (.cells #[.int .i64 3, .slice Ac 2 2] 33)) wd := (Below.refl _ _).grown hgd (by simp) (by simp); have d1 : wd.cell? ⟨wc.heap.size, 1, none⟩ = some (.slice Ac 2 2) := (hbd.cell (p := ⟨wc.heap.size, 1, none⟩) (by simp)).trans (by simp [go_sem]); have d0 : wd.cell? ⟨wc.heap.size, 0, none⟩ = some (.int .i64 3) := (hbd.cell (p := ⟨wc.heap.size, 0, none⟩) (by simp)).trans (by simp [go_sem]); have df : wd.frozen? ⟨wc.heap.size, 1, none⟩ = false := (hbd.frozen (p := ⟨wc.heap.size, 1, none⟩) (by simp)).trans (by simp [go_sem]))
  have hal : Below wc.heap.size wc (wc.alloc (.cells #[.int .i64 3, .slice Ac 2 2] 33)) := (Below.refl _ _).alloc (Nat.le_refl _) _
  have hcd : Below wc.heap.size wc wd := hal.trans (hbd.mono (by omega))
  have hce : Below wc.heap.size wc (wd.setCell ⟨wc.heap.size, 1, none⟩ (.slice (some ⟨wc.heap.size + 1, 0, none⟩) 9 9)) := hcd.setCell (p := ⟨wc.heap.size, 1, none⟩) (by simp) _
  have hmk9 : (madeCells (Value.agg #[.int .i64 0, .int .i64 0, .int .i64 0, .slice none 0 0]).cells (9 * 4)).toList = (List.replicate 9 [Value.int .i64 0, .int .i64 0, .int .i64 0, .slice none 0 0]).flatten := by kernel_rfl
  have many : StrataAt (wd.setCell ⟨wc.heap.size, 1, none⟩ (.slice (some ⟨wc.heap.size + 1, 0, none⟩) 9 9)) (.slice (some ⟨wc.heap.size + 1, 0, none⟩) 9 9) noneL := by
    refine strata_many (base := wc.heap.size + 1) (ownsRow_setCell_below ?_ (by simp) _)
    rw [hmk9, show (wc.alloc (.cells #[.int .i64 3, .slice Ac 2 2] 33)).heap.size = wc.heap.size + 1 by simp] at ownd
    exact ownd
  have m0 : (wd.setCell ⟨wc.heap.size, 1, none⟩ (.slice (some ⟨wc.heap.size + 1, 0, none⟩) 9 9)).cell? ⟨wc.heap.size, 0, none⟩ = some (.int .i64 3) := (World.cell?_setCell_other _ _ _ _ (by simp)).trans d0
  have m1 : (wd.setCell ⟨wc.heap.size, 1, none⟩ (.slice (some ⟨wc.heap.size + 1, 0, none⟩) 9 9)).cell? ⟨wc.heap.size, 1, none⟩ = some (.slice (some ⟨wc.heap.size + 1, 0, none⟩) 9 9) := World.cell?_setCell_same' _ _ _ (by rw [d1]; rfl)
  replace odd := odd.below hce
  replace o0 := cell_below hce o0
  replace o1 := cell_below hce o1
  have hwE := hwC.trans (hce.mono hwC.size)
  clear ownd hgd hbd hal hcd hmk9 d0 d1 df
  obtain ⟨we, hwe⟩ : ∃ we, wd.setCell ⟨wc.heap.size, 1, none⟩ (.slice (some ⟨wc.heap.size + 1, 0, none⟩) 9 9) = we := ⟨_, rfl⟩
  rw [hwe] at many m0 m1 odd o0 o1 hce hwE ⊢
  clear hwe
  go_wp2_with fail
  have h1 := checkPool_any 3 _ oddL we odd
  rw [show faultI 3 oddL = 1 by decide +kernel] at h1
  refine h1.mono ?_; rintro e wf ⟨rfl, hbf⟩
  clear h1
  have hwF := hwE.trans (hbf.mono hwE.size)
  replace m0 := cell_below hbf m0
  replace m1 := cell_below hbf m1
  replace many := many.below hbf
  go_wp2_with fail
  have h2 := checkPool_any 3 _ noneL wf many
  rw [show faultI 3 noneL = 3 by decide +kernel] at h2
  refine h2.mono ?_; rintro e wg ⟨rfl, hbg⟩
  clear h2
  have hwG := hwF.trans (hbg.mono hwF.size)
  go_wp2_with fail
  have h3 := checkPool_any 0 _ [] wg strata_nil
  rw [show faultI 0 [] = 1 by decide +kernel] at h3
  refine h3.mono ?_; rintro e wh ⟨rfl, hbh⟩
  clear h3
  have hwH := hwG.trans (hbh.mono hwG.size)
  go_wp2_with fail
  refine (wakes_any _).mono ?_; rintro e wi ⟨rfl, hbi⟩
  go_wp2
  go_ret
  exact ⟨rfl, hwH.trans (hbi.mono hwH.size)⟩

end Go.Proofs.Ytobeffjdfhkjeaa
