import Derived.Test.YtmbkpfkkohpnkaaFa
set_option linter.unusedVariables false
set_option linter.unusedSimpArgs false
namespace Go.Proofs.Ytmbkpfkkohpnkaa
open Go Go.Proofs Go.RowKit

theorem two_below (w : World) (o o' : Obj) : Below w.heap.size w ((w.alloc o).alloc o') := ((Below.refl _ _).alloc (Nat.le_refl _) _).alloc (by simp) _
theorem singles_any (t : Tar) (a b c : Value) (w : World) : Calls Try.prog 107 #[.agg #[.int .i64 t.zones, a, b, c, .int .i64 t.window]] w (Gives w a) := by
  have hb0 : Below w.heap.size w (w.alloc (.cells #[.int .i64 t.zones, a, b, c, .int .i64 t.window] 32)) := (Below.refl _ _).alloc (Nat.le_refl _) _
  go_enter Try.func107, Try.ntmps107
  go_wp2
  go_ret
  exact ⟨rfl, hb0⟩
theorem days_any (t : Tar) (a b c : Value) (w : World) : Calls Try.prog 108 #[.agg #[.int .i64 t.zones, a, b, c, .int .i64 t.window]] w (Gives w b) := by
  have hb0 : Below w.heap.size w (w.alloc (.cells #[.int .i64 t.zones, a, b, c, .int .i64 t.window] 32)) := (Below.refl _ _).alloc (Nat.le_refl _) _
  go_enter Try.func108, Try.ntmps108
  go_wp2
  go_ret
  exact ⟨rfl, hb0⟩
theorem weeks_any (t : Tar) (a b c : Value) (w : World) : Calls Try.prog 109 #[.agg #[.int .i64 t.zones, a, b, c, .int .i64 t.window]] w (Gives w c) := by
  have hb0 : Below w.heap.size w (w.alloc (.cells #[.int .i64 t.zones, a, b, c, .int .i64 t.window] 32)) := (Below.refl _ _).alloc (Nat.le_refl _) _
  go_enter Try.func109, Try.ntmps109
  go_wp2
  go_ret
  exact ⟨rfl, hb0⟩
theorem kinds_any (w : World) : Calls Try.prog 92 #[] w fun e w' => e = .returned (.slice (some ⟨w.heap.size, 0, none⟩) 3 3) ∧ w' = w.alloc (.cells #[.func (.func 107) #[] #[], .func (.func 108) #[] #[], .func (.func 109) #[] #[]] 148) := by
  go_enter Try.func92, Try.ntmps92
  go_wp2
  go_ret
  exact ⟨rfl, rfl⟩
set_option maxRecDepth 100000 in
set_option maxHeartbeats 1000000 in
theorem price_0 (t : Tar) (a b c : Value) (lo hi dy mi : Int) (w : World) (hT : NumsAt .i64 w a t.singles) (hl : t.singles.length ≤ 4) (h0 : 0 ≤ hi - lo) (h1 : hi - lo < (t.singles.length : Int)) :
    Calls Try.prog 65 #[.agg #[.int .i64 t.zones, a, b, c, .int .i64 t.window], .agg #[.int .u8 0, .int .i64 lo, .int .i64 hi, .int .i64 dy, .int .i64 mi]] w (Gives w (.int .i64 ((t.singles[(hi - lo).toNat]?).getD 0))) := by
  obtain ⟨n, hn⟩ : ∃ n : Nat, hi - lo = (n : Int) := ⟨(hi - lo).toNat, by omega⟩
  have hlen : n < t.singles.length := by omega
  have q : IntKind.i64.wrap (hi - lo) = (n : Int) := by rw [IntWalk.i64_in _ (by omega)]; exact hn
  obtain ⟨A, k, rfl, hc, hm⟩ := hT.form
  obtain ⟨bb, o, x, rfl, hx, hcell, hbb⟩ := hT.at_ hlen
  have e0 : (t.singles[(hi - lo).toNat]?).getD 0 = x := by rw [hn]; simp [hx]
  rw [e0]
  clear e0 hx
  have i0 : (n : Int) < (t.singles.length : Int) := by omega
  have i1 : ¬ (n : Int) < 0 := by omega
  have Hn := Lib.hid hn
  have Hc := Lib.hid hcell
  clear hn h0 h1 hT hcell
  generalize t.singles.length = N at *
  have hlN : (N : Int) ≤ 4 := by omega
  have S7 := Lib.hid (singles_any t (.slice (some ⟨bb, o, none⟩) N k) b c)
  go_enter Try.func65, Try.ntmps65
  go_wp2_with fail
  refine wp_name (fun W => Below w.heap.size w W ∧ w.heap.size + 1 < W.heap.size ∧ (W.heap[w.heap.size]? = some (.cells #[.int .i64 t.zones, .slice (some ⟨bb, o, none⟩) N k, b, c, .int .i64 t.window] 32 (0, 0))) ∧ W.heap[w.heap.size + 1]? = some (.cells #[.int .u8 0, .int .i64 lo, .int .i64 hi, .int .i64 dy, .int .i64 mi] 89 (0, 0))) ⟨two_below w _ _, by simp, (Below.heap_alloc _ _ _ (by simp)).trans (heap_alloc_new w _), heap_alloc2_new w _ _⟩ (fun W hW => ?_)
  obtain ⟨hW, hsz, hA, hB⟩ := hW
  generalize w.heap.size + 1 = g1 at *
  have qa := box_cells hA
  have qb := box_cells hB
  have HcW := Lib.hid (cell_below hW Hc.out)
  have hd : Below W.heap.size W W.drew := (Below.refl _ _).drew
  refine wp_region_noPanic ?_
  refine wp_region_pick [1, 2, 6, 8, 9, 10, 11, 12] [0, 3, 4, 5, 7, 13, 14, 15] (fun _ => true) (fun w' => Below W.heap.size W w') (by kernel_rfl) (by kernel_rfl) (fun _ _ _ _ _ h => h) hd (fun hne => ?_)
  have n0 := fun x : Meets (fun w' => Below W.heap.size W w') => cell_below x.property (qa 0)
  have n1 := fun x : Meets (fun w' => Below W.heap.size W w') => cell_below x.property (qa 1)
  have n2 := fun x : Meets (fun w' => Below W.heap.size W w') => cell_below x.property (qa 2)
  have n3 := fun x : Meets (fun w' => Below W.heap.size W w') => cell_below x.property (qa 3)
  have n4 := fun x : Meets (fun w' => Below W.heap.size W w') => cell_below x.property (qa 4)
  have n5 := fun x : Meets (fun w' => Below W.heap.size W w') => cell_below x.property (qb 0)
  have n6 := fun x : Meets (fun w' => Below W.heap.size W w') => cell_below x.property (qb 1)
  have n7 := fun x : Meets (fun w' => Below W.heap.size W w') => cell_below x.property (qb 2)
  have n8 := fun x : Meets (fun w' => Below W.heap.size W w') => cell_below x.property (qb 3)
  have n9 := fun x : Meets (fun w' => Below W.heap.size W w') => cell_below x.property (qb 4)
  simp only [pick, pickN, List.filterMap_cons, List.filterMap_nil, List.getElem?_cons_zero, List.getElem?_cons_succ, Option.map_some]
  repeat (change wpQuiet _ _ _ _ (_ :: _) _; go_big_quiet_step (fail))
  refine wpQuiet_nil ?_
  clear n0 n1 n2 n3 n4 n5 n6 n7 n8 n9 hne qa qb
  refine wpSeqP_step (fun K hK => ?_)
  go_simp
  refine (kinds_any _).mono ?_
  rintro e W1 ⟨rfl, hW1⟩
  have hs1 : W.drew.heap.size = W.heap.size := rfl
  have hb1 : Below W.heap.size W W1 := by rw [hW1]; exact hd.alloc (Nat.le_refl _) _
  have hk1 := heap_alloc_new W.drew (.cells #[.func (.func 107) #[] #[], .func (.func 108) #[] #[], .func (.func 109) #[] #[]] 148)
  rw [← hW1, hs1] at hk1
  rw [hs1]
  have qk := box_cells hk1
  have qk0 := qk 0
  simp only [List.getElem?_toArray, List.getElem?_cons_zero, List.getElem?_cons_succ] at qk0
  refine hK.out _ _ (fun _ => hb1) ?_
  clear hK K hk1 hW1 qk
  refine wpSeqP_step (fun K hK => ?_)
  go_simp
  refine hK.out _ _ (fun _ => hb1) ?_
  clear hK K
  refine wpSeqP_step (fun K hK => ?_)
  go_simp
  refine hK.out _ _ (fun _ => hb1) ?_
  clear hK K
  refine wpSeqP_step (fun K hK => ?_)
  go_simp
  refine hK.out _ _ (fun _ => hb1) ?_
  clear hK K
  refine wpSeqP_step (fun K hK => ?_)
  go_simp
  refine (S7.out _).mono ?_
  rintro e W2 ⟨rfl, hb2⟩
  have hb12 := hb1.trans (hb2.mono hb1.size)
  have HcX := cell_below hb12 HcW.out
  refine hK.out _ _ (fun _ => hb12) ?_
  clear hK K
  refine wpSeqP_step (fun K hK => ?_)
  go_simp
  refine hK.out _ _ (fun _ => hb12) ?_
  clear hK K
  refine wpSeqP_step (fun K hK => ?_)
  go_simp
  refine hK.out _ _ (fun _ => hb12) ?_
  clear hK K
  refine wpSeqP_step (fun K hK => ?_)
  go_simp
  refine hK.out _ _ (fun _ => hb12) ?_
  clear hK K
  refine wpSeqP_nil ?_
  refine NoPanic.normal ?_
  go_wp2
  go_ret
  exact ⟨rfl, hW.trans (hb12.mono hW.size)⟩
set_option maxRecDepth 100000 in
set_option maxHeartbeats 1000000 in
theorem price_1 (t : Tar) (a b c : Value) (lo hi dy mi : Int) (w : World) (hT : NumsAt .i64 w b t.days) (hl : t.days.length ≤ 4) (h0 : 0 ≤ hi - lo) (h1 : hi - lo < (t.days.length : Int)) :
    Calls Try.prog 65 #[.agg #[.int .i64 t.zones, a, b, c, .int .i64 t.window], .agg #[.int .u8 1, .int .i64 lo, .int .i64 hi, .int .i64 dy, .int .i64 mi]] w (Gives w (.int .i64 ((t.days[(hi - lo).toNat]?).getD 0))) := by
  obtain ⟨n, hn⟩ : ∃ n : Nat, hi - lo = (n : Int) := ⟨(hi - lo).toNat, by omega⟩
  have hlen : n < t.days.length := by omega
  have q : IntKind.i64.wrap (hi - lo) = (n : Int) := by rw [IntWalk.i64_in _ (by omega)]; exact hn
  obtain ⟨A, k, rfl, hc, hm⟩ := hT.form
  obtain ⟨bb, o, x, rfl, hx, hcell, hbb⟩ := hT.at_ hlen
  have e0 : (t.days[(hi - lo).toNat]?).getD 0 = x := by rw [hn]; simp [hx]
  rw [e0]
  clear e0 hx
  have i0 : (n : Int) < (t.days.length : Int) := by omega
  have i1 : ¬ (n : Int) < 0 := by omega
  have Hn := Lib.hid hn
  have Hc := Lib.hid hcell
  clear hn h0 h1 hT hcell
  generalize t.days.length = N at *
  have hlN : (N : Int) ≤ 4 := by omega
  have S7 := Lib.hid (days_any t a (.slice (some ⟨bb, o, none⟩) N k) c)
  go_enter Try.func65, Try.ntmps65
  go_wp2_with fail
  refine wp_name (fun W => Below w.heap.size w W ∧ w.heap.size + 1 < W.heap.size ∧ (W.heap[w.heap.size]? = some (.cells #[.int .i64 t.zones, a, .slice (some ⟨bb, o, none⟩) N k, c, .int .i64 t.window] 32 (0, 0))) ∧ W.heap[w.heap.size + 1]? = some (.cells #[.int .u8 1, .int .i64 lo, .int .i64 hi, .int .i64 dy, .int .i64 mi] 89 (0, 0))) ⟨two_below w _ _, by simp, (Below.heap_alloc _ _ _ (by simp)).trans (heap_alloc_new w _), heap_alloc2_new w _ _⟩ (fun W hW => ?_)
  obtain ⟨hW, hsz, hA, hB⟩ := hW
  generalize w.heap.size + 1 = g1 at *
  have qa := box_cells hA
  have qb := box_cells hB
  have HcW := Lib.hid (cell_below hW Hc.out)
  have hd : Below W.heap.size W W.drew := (Below.refl _ _).drew
  refine wp_region_noPanic ?_
  refine wp_region_pick [1, 2, 6, 8, 9, 10, 11, 12] [0, 3, 4, 5, 7, 13, 14, 15] (fun _ => true) (fun w' => Below W.heap.size W w') (by kernel_rfl) (by kernel_rfl) (fun _ _ _ _ _ h => h) hd (fun hne => ?_)
  have n0 := fun x : Meets (fun w' => Below W.heap.size W w') => cell_below x.property (qa 0)
  have n1 := fun x : Meets (fun w' => Below W.heap.size W w') => cell_below x.property (qa 1)
  have n2 := fun x : Meets (fun w' => Below W.heap.size W w') => cell_below x.property (qa 2)
  have n3 := fun x : Meets (fun w' => Below W.heap.size W w') => cell_below x.property (qa 3)
  have n4 := fun x : Meets (fun w' => Below W.heap.size W w') => cell_below x.property (qa 4)
  have n5 := fun x : Meets (fun w' => Below W.heap.size W w') => cell_below x.property (qb 0)
  have n6 := fun x : Meets (fun w' => Below W.heap.size W w') => cell_below x.property (qb 1)
  have n7 := fun x : Meets (fun w' => Below W.heap.size W w') => cell_below x.property (qb 2)
  have n8 := fun x : Meets (fun w' => Below W.heap.size W w') => cell_below x.property (qb 3)
  have n9 := fun x : Meets (fun w' => Below W.heap.size W w') => cell_below x.property (qb 4)
  simp only [pick, pickN, List.filterMap_cons, List.filterMap_nil, List.getElem?_cons_zero, List.getElem?_cons_succ, Option.map_some]
  repeat (change wpQuiet _ _ _ _ (_ :: _) _; go_big_quiet_step (fail))
  refine wpQuiet_nil ?_
  clear n0 n1 n2 n3 n4 n5 n6 n7 n8 n9 hne qa qb
  refine wpSeqP_step (fun K hK => ?_)
  go_simp
  refine (kinds_any _).mono ?_
  rintro e W1 ⟨rfl, hW1⟩
  have hs1 : W.drew.heap.size = W.heap.size := rfl
  have hb1 : Below W.heap.size W W1 := by rw [hW1]; exact hd.alloc (Nat.le_refl _) _
  have hk1 := heap_alloc_new W.drew (.cells #[.func (.func 107) #[] #[], .func (.func 108) #[] #[], .func (.func 109) #[] #[]] 148)
  rw [← hW1, hs1] at hk1
  rw [hs1]
  have qk := box_cells hk1
  have qk0 := qk 1
  simp only [List.getElem?_toArray, List.getElem?_cons_zero, List.getElem?_cons_succ] at qk0
  refine hK.out _ _ (fun _ => hb1) ?_
  clear hK K hk1 hW1 qk
  refine wpSeqP_step (fun K hK => ?_)
  go_simp
  refine hK.out _ _ (fun _ => hb1) ?_
  clear hK K
  refine wpSeqP_step (fun K hK => ?_)
  go_simp
  refine hK.out _ _ (fun _ => hb1) ?_
  clear hK K
  refine wpSeqP_step (fun K hK => ?_)
  go_simp
  refine hK.out _ _ (fun _ => hb1) ?_
  clear hK K
  refine wpSeqP_step (fun K hK => ?_)
  go_simp
  refine (S7.out _).mono ?_
  rintro e W2 ⟨rfl, hb2⟩
  have hb12 := hb1.trans (hb2.mono hb1.size)
  have HcX := cell_below hb12 HcW.out
  refine hK.out _ _ (fun _ => hb12) ?_
  clear hK K
  refine wpSeqP_step (fun K hK => ?_)
  go_simp
  refine hK.out _ _ (fun _ => hb12) ?_
  clear hK K
  refine wpSeqP_step (fun K hK => ?_)
  go_simp
  refine hK.out _ _ (fun _ => hb12) ?_
  clear hK K
  refine wpSeqP_step (fun K hK => ?_)
  go_simp
  refine hK.out _ _ (fun _ => hb12) ?_
  clear hK K
  refine wpSeqP_nil ?_
  refine NoPanic.normal ?_
  go_wp2
  go_ret
  exact ⟨rfl, hW.trans (hb12.mono hW.size)⟩
set_option maxRecDepth 100000 in
set_option maxHeartbeats 1000000 in
theorem price_2 (t : Tar) (a b c : Value) (lo hi dy mi : Int) (w : World) (hT : NumsAt .i64 w c t.weeks) (hl : t.weeks.length ≤ 4) (h0 : 0 ≤ hi - lo) (h1 : hi - lo < (t.weeks.length : Int)) :
    Calls Try.prog 65 #[.agg #[.int .i64 t.zones, a, b, c, .int .i64 t.window], .agg #[.int .u8 2, .int .i64 lo, .int .i64 hi, .int .i64 dy, .int .i64 mi]] w (Gives w (.int .i64 ((t.weeks[(hi - lo).toNat]?).getD 0))) := by
  obtain ⟨n, hn⟩ : ∃ n : Nat, hi - lo = (n : Int) := ⟨(hi - lo).toNat, by omega⟩
  have hlen : n < t.weeks.length := by omega
  have q : IntKind.i64.wrap (hi - lo) = (n : Int) := by rw [IntWalk.i64_in _ (by omega)]; exact hn
  obtain ⟨A, k, rfl, hc, hm⟩ := hT.form
  obtain ⟨bb, o, x, rfl, hx, hcell, hbb⟩ := hT.at_ hlen
  have e0 : (t.weeks[(hi - lo).toNat]?).getD 0 = x := by rw [hn]; simp [hx]
  rw [e0]
  clear e0 hx
  have i0 : (n : Int) < (t.weeks.length : Int) := by omega
  have i1 : ¬ (n : Int) < 0 := by omega
  have Hn := Lib.hid hn
  have Hc := Lib.hid hcell
  clear hn h0 h1 hT hcell
  generalize t.weeks.length = N at *
  have hlN : (N : Int) ≤ 4 := by omega
  have S7 := Lib.hid (weeks_any t a b (.slice (some ⟨bb, o, none⟩) N k))
  go_enter Try.func65, Try.ntmps65
  go_wp2_with fail
  refine wp_name (fun W => Below w.heap.size w W ∧ w.heap.size + 1 < W.heap.size ∧ (W.heap[w.heap.size]? = some (.cells #[.int .i64 t.zones, a, b, .slice (some ⟨bb, o, none⟩) N k, .int .i64 t.window] 32 (0, 0))) ∧ W.heap[w.heap.size + 1]? = some (.cells #[.int .u8 2, .int .i64 lo, .int .i64 hi, .int .i64 dy, .int .i64 mi] 89 (0, 0))) ⟨two_below w _ _, by simp, (Below.heap_alloc _ _ _ (by simp)).trans (heap_alloc_new w _), heap_alloc2_new w _ _⟩ (fun W hW => ?_)
  obtain ⟨hW, hsz, hA, hB⟩ := hW
  generalize w.heap.size + 1 = g1 at *
  have qa := box_cells hA
  have qb := box_cells hB
  have HcW := Lib.hid (cell_below hW Hc.out)
  have hd : Below W.heap.size W W.drew := (Below.refl _ _).drew
  refine wp_region_noPanic ?_
  refine wp_region_pick [1, 2, 6, 8, 9, 10, 11, 12] [0, 3, 4, 5, 7, 13, 14, 15] (fun _ => true) (fun w' => Below W.heap.size W w') (by kernel_rfl) (by kernel_rfl) (fun _ _ _ _ _ h => h) hd (fun hne => ?_)
  have n0 := fun x : Meets (fun w' => Below W.heap.size W w') => cell_below x.property (qa 0)
  have n1 := fun x : Meets (fun w' => Below W.heap.size W w') => cell_below x.property (qa 1)
  have n2 := fun x : Meets (fun w' => Below W.heap.size W w') => cell_below x.property (qa 2)
  have n3 := fun x : Meets (fun w' => Below W.heap.size W w') => cell_below x.property (qa 3)
  have n4 := fun x : Meets (fun w' => Below W.heap.size W w') => cell_below x.property (qa 4)
  have n5 := fun x : Meets (fun w' => Below W.heap.size W w') => cell_below x.property (qb 0)
  have n6 := fun x : Meets (fun w' => Below W.heap.size W w') => cell_below x.property (qb 1)
  have n7 := fun x : Meets (fun w' => Below W.heap.size W w') => cell_below x.property (qb 2)
  have n8 := fun x : Meets (fun w' => Below W.heap.size W w') => cell_below x.property (qb 3)
  have n9 := fun x : Meets (fun w' => Below W.heap.size W w') => cell_below x.property (qb 4)
  simp only [pick, pickN, List.filterMap_cons, List.filterMap_nil, List.getElem?_cons_zero, List.getElem?_cons_succ, Option.map_some]
  repeat (change wpQuiet _ _ _ _ (_ :: _) _; go_big_quiet_step (fail))
  refine wpQuiet_nil ?_
  clear n0 n1 n2 n3 n4 n5 n6 n7 n8 n9 hne qa qb
  refine wpSeqP_step (fun K hK => ?_)
  go_simp
  refine (kinds_any _).mono ?_
  rintro e W1 ⟨rfl, hW1⟩
  have hs1 : W.drew.heap.size = W.heap.size := rfl
  have hb1 : Below W.heap.size W W1 := by rw [hW1]; exact hd.alloc (Nat.le_refl _) _
  have hk1 := heap_alloc_new W.drew (.cells #[.func (.func 107) #[] #[], .func (.func 108) #[] #[], .func (.func 109) #[] #[]] 148)
  rw [← hW1, hs1] at hk1
  rw [hs1]
  have qk := box_cells hk1
  have qk0 := qk 2
  simp only [List.getElem?_toArray, List.getElem?_cons_zero, List.getElem?_cons_succ] at qk0
  refine hK.out _ _ (fun _ => hb1) ?_
  clear hK K hk1 hW1 qk
  refine wpSeqP_step (fun K hK => ?_)
  go_simp
  refine hK.out _ _ (fun _ => hb1) ?_
  clear hK K
  refine wpSeqP_step (fun K hK => ?_)
  go_simp
  refine hK.out _ _ (fun _ => hb1) ?_
  clear hK K
  refine wpSeqP_step (fun K hK => ?_)
  go_simp
  refine hK.out _ _ (fun _ => hb1) ?_
  clear hK K
  refine wpSeqP_step (fun K hK => ?_)
  go_simp
  refine (S7.out _).mono ?_
  rintro e W2 ⟨rfl, hb2⟩
  have hb12 := hb1.trans (hb2.mono hb1.size)
  have HcX := cell_below hb12 HcW.out
  refine hK.out _ _ (fun _ => hb12) ?_
  clear hK K
  refine wpSeqP_step (fun K hK => ?_)
  go_simp
  refine hK.out _ _ (fun _ => hb12) ?_
  clear hK K
  refine wpSeqP_step (fun K hK => ?_)
  go_simp
  refine hK.out _ _ (fun _ => hb12) ?_
  clear hK K
  refine wpSeqP_step (fun K hK => ?_)
  go_simp
  refine hK.out _ _ (fun _ => hb12) ?_
  clear hK K
  refine wpSeqP_nil ?_
  refine NoPanic.normal ?_
  go_wp2
  go_ret
  exact ⟨rfl, hW.trans (hb12.mono hW.size)⟩
theorem price_any (t : Tar) (a b c : Value) (x : Tk) (w : World) (hT : TarAt w a b c t) (ht : tarB t = true) (hx : tkB t x = true) : Calls Try.prog 65 #[.agg #[.int .i64 t.zones, a, b, c, .int .i64 t.window], .agg #[.int .u8 (x.kind : Int), .int .i64 x.low, .int .i64 x.high, .int .i64 x.day, .int .i64 x.minute]] w (Gives w (.int .i64 (priceT t x))) := by
  obtain ⟨hk, ⟨z1, z2, z3⟩, _⟩ := tkB_iff.1 hx
  have hz := tar_pos ht
  have hl := fun k => (kindL_ok ht k).1
  obtain ⟨kind, lo, hi, dy, mi⟩ := x
  simp only at hk z1 z2 z3
  have h0 : (t.singles.length : Int) = t.zones := hl 0
  have h1 : (t.days.length : Int) = t.zones := hl 1
  have h2 : (t.weeks.length : Int) = t.zones := hl 2
  match kind, hk with
  | 0, _ => exact price_0 t a b c lo hi dy mi w hT.singles (by omega) (by omega) (by omega)
  | 1, _ => exact price_1 t a b c lo hi dy mi w hT.days (by omega) (by omega) (by omega)
  | 2, _ => exact price_2 t a b c lo hi dy mi w hT.weeks (by omega) (by omega) (by omega)
end Go.Proofs.Ytmbkpfkkohpnkaa
