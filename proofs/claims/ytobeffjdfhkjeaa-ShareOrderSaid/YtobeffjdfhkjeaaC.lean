import Derived.Test.YtobeffjdfhkjeaaAll
import Derived.Test.YtobeffjdfhkjeaaAllS
import Derived.Test.YtobeffjdfhkjeaaB
set_option linter.unusedVariables false
set_option linter.unusedSimpArgs false
namespace Go.Proofs.Ytobeffjdfhkjeaa
open Go Go.Proofs Go.RowKit

theorem journeys_val (w : World) (x : Int) : CallsVal Try.prog (.func (.func 77) #[] #[]) #[.int .i64 x] w (Gives w (.bool (inB x 0 400))) :=
  ⟨77, #[.int .i64 x], by kernel_rfl, journeys_any x w⟩

theorem allJ_any (v : Value) (l : List Int) (w : World) (hv : NumsAt .i64 w v l) : Calls Try.prog 69 #[v, .func (.func 77) #[] #[]] w (Gives w (.bool (l.all fun x => inB x 0 400))) :=
  all_ints (.func 77) #[] #[] (fun x => inB x 0 400) v l w hv fun _ x w' _ _ => journeys_val w' x

set_option maxRecDepth 100000 in
theorem stratum_0 (n : Int) (ps : Value) (s : Strat) (u : Value) (w : World) (hn0 : 1 ≤ n) (hn : n ≤ 5) (hu : NumsAt .i64 w u s.seen)  (e1 : inB s.coins 0 10000000 = false) :
    Calls Try.prog 55 #[.agg #[.int .i64 n, ps], .agg #[.int .i64 s.coins, .int .i64 s.lo, .int .i64 s.hi, u]] w (Gives w (.bool false)) := by
  obtain ⟨A, c, rfl, hc, hm, hT⟩ := hu
  have hu : NumsAt .i64 w (.slice A s.seen.length c) s.seen := ⟨A, c, rfl, hc, hm, hT⟩
  clear hT
  unfold maxLen at hm
  go_enter Try.func55, Try.ntmps55
  go_wp2_with fail
  refine wp_name (fun W => Below w.heap.size w W ∧ W.cell? ⟨w.heap.size, 0, none⟩ = some (.int .i64 n) ∧ W.cell? ⟨w.heap.size + 1, 0, none⟩ = some (.int .i64 s.coins) ∧
    W.cell? ⟨w.heap.size + 1, 3, none⟩ = some (.slice A s.seen.length c) ∧ W.cell? ⟨w.heap.size + 1 + 1, 0, none⟩ = some (.int .i64 s.lo) ∧ W.cell? ⟨w.heap.size + 1 + 1, 1, none⟩ = some (.int .i64 s.hi)) ?_ (fun W hF => ?_)
  · exact ⟨(((Below.refl _ _).alloc (Nat.le_refl _) _).alloc (by simp) _).alloc (by simp; omega) _, by simp [go_sem], by simp [go_sem], by simp [go_sem], by simp [go_sem], by simp [go_sem]⟩
  obtain ⟨hW, c0, c1, c2, c3, c4⟩ := hF
  have huW := hu.below hW
  replace c0 := Later.cell c0
  replace c1 := Later.cell c1
  replace c2 := Later.cell c2
  replace c3 := Later.cell c3
  replace c4 := Later.cell c4
  refine wp_region_later (by kernel_rfl) (by kernel_rfl) ?_
  repeat (go_big_quiet_step (first
    | (go_at_call 53; exact Later.call (Gives.to (by assumption) (within_any _ _ _ _)))
    | (go_at_call 77; exact Later.call (Gives.to (by assumption) (journeys_any _ _)))
    | (go_at_call 69; exact Later.call (Gives.to (by assumption) (allJ_any _ _ _ (huW.below (Subtype.property _)))))))
  refine wpQuiet_nil ?_
  rintro _ ⟨⟨w2, hb2⟩, rfl⟩
  go_wp2
  go_ret
  exact ⟨rfl, hW.trans (hb2.mono hW.size)⟩

set_option maxRecDepth 100000 in
theorem stratum_1 (n : Int) (ps : Value) (s : Strat) (u : Value) (w : World) (hn0 : 1 ≤ n) (hn : n ≤ 5) (hu : NumsAt .i64 w u s.seen) (e1 : inB s.coins 0 10000000 = true) (e2 : inB s.lo 0 400 = false) :
    Calls Try.prog 55 #[.agg #[.int .i64 n, ps], .agg #[.int .i64 s.coins, .int .i64 s.lo, .int .i64 s.hi, u]] w (Gives w (.bool false)) := by
  obtain ⟨A, c, rfl, hc, hm, hT⟩ := hu
  have hu : NumsAt .i64 w (.slice A s.seen.length c) s.seen := ⟨A, c, rfl, hc, hm, hT⟩
  clear hT
  unfold maxLen at hm
  go_enter Try.func55, Try.ntmps55
  go_wp2_with fail
  refine wp_name (fun W => Below w.heap.size w W ∧ W.cell? ⟨w.heap.size, 0, none⟩ = some (.int .i64 n) ∧ W.cell? ⟨w.heap.size + 1, 0, none⟩ = some (.int .i64 s.coins) ∧
    W.cell? ⟨w.heap.size + 1, 3, none⟩ = some (.slice A s.seen.length c) ∧ W.cell? ⟨w.heap.size + 1 + 1, 0, none⟩ = some (.int .i64 s.lo) ∧ W.cell? ⟨w.heap.size + 1 + 1, 1, none⟩ = some (.int .i64 s.hi)) ?_ (fun W hF => ?_)
  · exact ⟨(((Below.refl _ _).alloc (Nat.le_refl _) _).alloc (by simp) _).alloc (by simp; omega) _, by simp [go_sem], by simp [go_sem], by simp [go_sem], by simp [go_sem], by simp [go_sem]⟩
  obtain ⟨hW, c0, c1, c2, c3, c4⟩ := hF
  have huW := hu.below hW
  replace c0 := Later.cell c0
  replace c1 := Later.cell c1
  replace c2 := Later.cell c2
  replace c3 := Later.cell c3
  replace c4 := Later.cell c4
  refine wp_region_later (by kernel_rfl) (by kernel_rfl) ?_
  repeat (go_big_quiet_step (first
    | (go_at_call 53; exact Later.call (Gives.to (by assumption) (within_any _ _ _ _)))
    | (go_at_call 77; exact Later.call (Gives.to (by assumption) (journeys_any _ _)))
    | (go_at_call 69; exact Later.call (Gives.to (by assumption) (allJ_any _ _ _ (huW.below (Subtype.property _)))))))
  refine wpQuiet_nil ?_
  rintro _ ⟨⟨w2, hb2⟩, rfl⟩
  go_wp2
  go_ret
  exact ⟨rfl, hW.trans (hb2.mono hW.size)⟩

set_option maxRecDepth 100000 in
theorem stratum_2 (n : Int) (ps : Value) (s : Strat) (u : Value) (w : World) (hn0 : 1 ≤ n) (hn : n ≤ 5) (hu : NumsAt .i64 w u s.seen) (e1 : inB s.coins 0 10000000 = true) (e2 : inB s.lo 0 400 = true) (e3 : inB s.hi 0 400 = false) :
    Calls Try.prog 55 #[.agg #[.int .i64 n, ps], .agg #[.int .i64 s.coins, .int .i64 s.lo, .int .i64 s.hi, u]] w (Gives w (.bool false)) := by
  obtain ⟨A, c, rfl, hc, hm, hT⟩ := hu
  have hu : NumsAt .i64 w (.slice A s.seen.length c) s.seen := ⟨A, c, rfl, hc, hm, hT⟩
  clear hT
  unfold maxLen at hm
  go_enter Try.func55, Try.ntmps55
  go_wp2_with fail
  refine wp_name (fun W => Below w.heap.size w W ∧ W.cell? ⟨w.heap.size, 0, none⟩ = some (.int .i64 n) ∧ W.cell? ⟨w.heap.size + 1, 0, none⟩ = some (.int .i64 s.coins) ∧
    W.cell? ⟨w.heap.size + 1, 3, none⟩ = some (.slice A s.seen.length c) ∧ W.cell? ⟨w.heap.size + 1 + 1, 0, none⟩ = some (.int .i64 s.lo) ∧ W.cell? ⟨w.heap.size + 1 + 1, 1, none⟩ = some (.int .i64 s.hi)) ?_ (fun W hF => ?_)
  · exact ⟨(((Below.refl _ _).alloc (Nat.le_refl _) _).alloc (by simp) _).alloc (by simp; omega) _, by simp [go_sem], by simp [go_sem], by simp [go_sem], by simp [go_sem], by simp [go_sem]⟩
  obtain ⟨hW, c0, c1, c2, c3, c4⟩ := hF
  have huW := hu.below hW
  replace c0 := Later.cell c0
  replace c1 := Later.cell c1
  replace c2 := Later.cell c2
  replace c3 := Later.cell c3
  replace c4 := Later.cell c4
  refine wp_region_later (by kernel_rfl) (by kernel_rfl) ?_
  repeat (go_big_quiet_step (first
    | (go_at_call 53; exact Later.call (Gives.to (by assumption) (within_any _ _ _ _)))
    | (go_at_call 77; exact Later.call (Gives.to (by assumption) (journeys_any _ _)))
    | (go_at_call 69; exact Later.call (Gives.to (by assumption) (allJ_any _ _ _ (huW.below (Subtype.property _)))))))
  refine wpQuiet_nil ?_
  rintro _ ⟨⟨w2, hb2⟩, rfl⟩
  go_wp2
  go_ret
  exact ⟨rfl, hW.trans (hb2.mono hW.size)⟩

set_option maxRecDepth 100000 in
theorem stratum_3 (n : Int) (ps : Value) (s : Strat) (u : Value) (w : World) (hn0 : 1 ≤ n) (hn : n ≤ 5) (hu : NumsAt .i64 w u s.seen) (e1 : inB s.coins 0 10000000 = true) (e2 : inB s.lo 0 400 = true) (e3 : inB s.hi 0 400 = true) (e4 : decide (s.lo ≤ s.hi) = false) :
    Calls Try.prog 55 #[.agg #[.int .i64 n, ps], .agg #[.int .i64 s.coins, .int .i64 s.lo, .int .i64 s.hi, u]] w (Gives w (.bool false)) := by
  obtain ⟨A, c, rfl, hc, hm, hT⟩ := hu
  have hu : NumsAt .i64 w (.slice A s.seen.length c) s.seen := ⟨A, c, rfl, hc, hm, hT⟩
  clear hT
  unfold maxLen at hm
  go_enter Try.func55, Try.ntmps55
  go_wp2_with fail
  refine wp_name (fun W => Below w.heap.size w W ∧ W.cell? ⟨w.heap.size, 0, none⟩ = some (.int .i64 n) ∧ W.cell? ⟨w.heap.size + 1, 0, none⟩ = some (.int .i64 s.coins) ∧
    W.cell? ⟨w.heap.size + 1, 3, none⟩ = some (.slice A s.seen.length c) ∧ W.cell? ⟨w.heap.size + 1 + 1, 0, none⟩ = some (.int .i64 s.lo) ∧ W.cell? ⟨w.heap.size + 1 + 1, 1, none⟩ = some (.int .i64 s.hi)) ?_ (fun W hF => ?_)
  · exact ⟨(((Below.refl _ _).alloc (Nat.le_refl _) _).alloc (by simp) _).alloc (by simp; omega) _, by simp [go_sem], by simp [go_sem], by simp [go_sem], by simp [go_sem], by simp [go_sem]⟩
  obtain ⟨hW, c0, c1, c2, c3, c4⟩ := hF
  have huW := hu.below hW
  replace c0 := Later.cell c0
  replace c1 := Later.cell c1
  replace c2 := Later.cell c2
  replace c3 := Later.cell c3
  replace c4 := Later.cell c4
  refine wp_region_later (by kernel_rfl) (by kernel_rfl) ?_
  repeat (go_big_quiet_step (first
    | (go_at_call 53; exact Later.call (Gives.to (by assumption) (within_any _ _ _ _)))
    | (go_at_call 77; exact Later.call (Gives.to (by assumption) (journeys_any _ _)))
    | (go_at_call 69; exact Later.call (Gives.to (by assumption) (allJ_any _ _ _ (huW.below (Subtype.property _)))))))
  refine wpQuiet_nil ?_
  rintro _ ⟨⟨w2, hb2⟩, rfl⟩
  go_wp2
  go_ret
  exact ⟨rfl, hW.trans (hb2.mono hW.size)⟩

set_option maxRecDepth 100000 in
theorem stratum_4 (n : Int) (ps : Value) (s : Strat) (u : Value) (w : World) (hn0 : 1 ≤ n) (hn : n ≤ 5) (hu : NumsAt .i64 w u s.seen) (e1 : inB s.coins 0 10000000 = true) (e2 : inB s.lo 0 400 = true) (e3 : inB s.hi 0 400 = true) (e4 : decide (s.lo ≤ s.hi) = true) (e5 : ((s.seen.length : Int) == n) = false) :
    Calls Try.prog 55 #[.agg #[.int .i64 n, ps], .agg #[.int .i64 s.coins, .int .i64 s.lo, .int .i64 s.hi, u]] w (Gives w (.bool false)) := by
  obtain ⟨A, c, rfl, hc, hm, hT⟩ := hu
  have hu : NumsAt .i64 w (.slice A s.seen.length c) s.seen := ⟨A, c, rfl, hc, hm, hT⟩
  clear hT
  unfold maxLen at hm
  go_enter Try.func55, Try.ntmps55
  go_wp2_with fail
  refine wp_name (fun W => Below w.heap.size w W ∧ W.cell? ⟨w.heap.size, 0, none⟩ = some (.int .i64 n) ∧ W.cell? ⟨w.heap.size + 1, 0, none⟩ = some (.int .i64 s.coins) ∧
    W.cell? ⟨w.heap.size + 1, 3, none⟩ = some (.slice A s.seen.length c) ∧ W.cell? ⟨w.heap.size + 1 + 1, 0, none⟩ = some (.int .i64 s.lo) ∧ W.cell? ⟨w.heap.size + 1 + 1, 1, none⟩ = some (.int .i64 s.hi)) ?_ (fun W hF => ?_)
  · exact ⟨(((Below.refl _ _).alloc (Nat.le_refl _) _).alloc (by simp) _).alloc (by simp; omega) _, by simp [go_sem], by simp [go_sem], by simp [go_sem], by simp [go_sem], by simp [go_sem]⟩
  obtain ⟨hW, c0, c1, c2, c3, c4⟩ := hF
  have huW := hu.below hW
  replace c0 := Later.cell c0
  replace c1 := Later.cell c1
  replace c2 := Later.cell c2
  replace c3 := Later.cell c3
  replace c4 := Later.cell c4
  refine wp_region_later (by kernel_rfl) (by kernel_rfl) ?_
  repeat (go_big_quiet_step (first
    | (go_at_call 53; exact Later.call (Gives.to (by assumption) (within_any _ _ _ _)))
    | (go_at_call 77; exact Later.call (Gives.to (by assumption) (journeys_any _ _)))
    | (go_at_call 69; exact Later.call (Gives.to (by assumption) (allJ_any _ _ _ (huW.below (Subtype.property _)))))))
  refine wpQuiet_nil ?_
  rintro _ ⟨⟨w2, hb2⟩, rfl⟩
  go_wp2
  go_ret
  exact ⟨rfl, hW.trans (hb2.mono hW.size)⟩

set_option maxRecDepth 100000 in
theorem stratum_5 (n : Int) (ps : Value) (s : Strat) (u : Value) (w : World) (hn0 : 1 ≤ n) (hn : n ≤ 5) (hu : NumsAt .i64 w u s.seen) (e1 : inB s.coins 0 10000000 = true) (e2 : inB s.lo 0 400 = true) (e3 : inB s.hi 0 400 = true) (e4 : decide (s.lo ≤ s.hi) = true) (e5 : ((s.seen.length : Int) == n) = true) (e6 : (s.seen.all fun x => inB x 0 400) = false) :
    Calls Try.prog 55 #[.agg #[.int .i64 n, ps], .agg #[.int .i64 s.coins, .int .i64 s.lo, .int .i64 s.hi, u]] w (Gives w (.bool false)) := by
  obtain ⟨A, c, rfl, hc, hm, hT⟩ := hu
  have hu : NumsAt .i64 w (.slice A s.seen.length c) s.seen := ⟨A, c, rfl, hc, hm, hT⟩
  clear hT
  unfold maxLen at hm
  go_enter Try.func55, Try.ntmps55
  go_wp2_with fail
  refine wp_name (fun W => Below w.heap.size w W ∧ W.cell? ⟨w.heap.size, 0, none⟩ = some (.int .i64 n) ∧ W.cell? ⟨w.heap.size + 1, 0, none⟩ = some (.int .i64 s.coins) ∧
    W.cell? ⟨w.heap.size + 1, 3, none⟩ = some (.slice A s.seen.length c) ∧ W.cell? ⟨w.heap.size + 1 + 1, 0, none⟩ = some (.int .i64 s.lo) ∧ W.cell? ⟨w.heap.size + 1 + 1, 1, none⟩ = some (.int .i64 s.hi)) ?_ (fun W hF => ?_)
  · exact ⟨(((Below.refl _ _).alloc (Nat.le_refl _) _).alloc (by simp) _).alloc (by simp; omega) _, by simp [go_sem], by simp [go_sem], by simp [go_sem], by simp [go_sem], by simp [go_sem]⟩
  obtain ⟨hW, c0, c1, c2, c3, c4⟩ := hF
  have huW := hu.below hW
  replace c0 := Later.cell c0
  replace c1 := Later.cell c1
  replace c2 := Later.cell c2
  replace c3 := Later.cell c3
  replace c4 := Later.cell c4
  refine wp_region_later (by kernel_rfl) (by kernel_rfl) ?_
  repeat (go_big_quiet_step (first
    | (go_at_call 53; exact Later.call (Gives.to (by assumption) (within_any _ _ _ _)))
    | (go_at_call 77; exact Later.call (Gives.to (by assumption) (journeys_any _ _)))
    | (go_at_call 69; exact Later.call (Gives.to (by assumption) (allJ_any _ _ _ (huW.below (Subtype.property _)))))))
  refine wpQuiet_nil ?_
  rintro _ ⟨⟨w2, hb2⟩, rfl⟩
  go_wp2
  go_ret
  exact ⟨rfl, hW.trans (hb2.mono hW.size)⟩

set_option maxRecDepth 100000 in
theorem stratum_6 (n : Int) (ps : Value) (s : Strat) (u : Value) (w : World) (hn0 : 1 ≤ n) (hn : n ≤ 5) (hu : NumsAt .i64 w u s.seen) (e1 : inB s.coins 0 10000000 = true) (e2 : inB s.lo 0 400 = true) (e3 : inB s.hi 0 400 = true) (e4 : decide (s.lo ≤ s.hi) = true) (e5 : ((s.seen.length : Int) == n) = true) (e6 : (s.seen.all fun x => inB x 0 400) = true) :
    Calls Try.prog 55 #[.agg #[.int .i64 n, ps], .agg #[.int .i64 s.coins, .int .i64 s.lo, .int .i64 s.hi, u]] w (Gives w (.bool (decide (sumL s.seen ≤ s.lo)))) := by
  have hok : SumOk s.seen := sumOk_of (by simp at e5; omega) (by
    intro x hx
    have := List.all_eq_true.1 e6 x hx
    simp [inB] at this
    omega)
  obtain ⟨A, c, rfl, hc, hm, hT⟩ := hu
  have hu : NumsAt .i64 w (.slice A s.seen.length c) s.seen := ⟨A, c, rfl, hc, hm, hT⟩
  clear hT
  unfold maxLen at hm
  go_enter Try.func55, Try.ntmps55
  go_wp2_with fail
  refine wp_name (fun W => Below w.heap.size w W ∧ W.cell? ⟨w.heap.size, 0, none⟩ = some (.int .i64 n) ∧ W.cell? ⟨w.heap.size + 1, 0, none⟩ = some (.int .i64 s.coins) ∧
    W.cell? ⟨w.heap.size + 1, 3, none⟩ = some (.slice A s.seen.length c) ∧ W.cell? ⟨w.heap.size + 1 + 1, 0, none⟩ = some (.int .i64 s.lo) ∧ W.cell? ⟨w.heap.size + 1 + 1, 1, none⟩ = some (.int .i64 s.hi)) ?_ (fun W hF => ?_)
  · exact ⟨(((Below.refl _ _).alloc (Nat.le_refl _) _).alloc (by simp) _).alloc (by simp; omega) _, by simp [go_sem], by simp [go_sem], by simp [go_sem], by simp [go_sem], by simp [go_sem]⟩
  obtain ⟨hW, c0, c1, c2, c3, c4⟩ := hF
  have huW := hu.below hW
  replace c0 := Later.cell c0
  replace c1 := Later.cell c1
  replace c2 := Later.cell c2
  replace c3 := Later.cell c3
  replace c4 := Later.cell c4
  refine wp_region_later (by kernel_rfl) (by kernel_rfl) ?_
  repeat (go_big_quiet_step (first
    | (go_at_call 53; exact Later.call (Gives.to (by assumption) (within_any _ _ _ _)))
    | (go_at_call 77; exact Later.call (Gives.to (by assumption) (journeys_any _ _)))
    | (go_at_call 69; exact Later.call (Gives.to (by assumption) (allJ_any _ _ _ (huW.below (Subtype.property _)))))
    | (go_at_call 59; exact Later.call (sum_any _ _ _ (huW.below (Subtype.property _)) hok))))
  refine wpQuiet_nil ?_
  rintro _ ⟨⟨w2, hb2⟩, rfl⟩
  go_wp2
  go_ret
  exact ⟨rfl, hW.trans (hb2.mono hW.size)⟩

theorem stratum_any (n : Int) (ps : Value) (s : Strat) (u : Value) (w : World) (hn0 : 1 ≤ n) (hn : n ≤ 5) (hu : NumsAt .i64 w u s.seen) :
    Calls Try.prog 55 #[.agg #[.int .i64 n, ps], .agg #[.int .i64 s.coins, .int .i64 s.lo, .int .i64 s.hi, u]] w (Gives w (.bool (stratB n s))) := by
  have e5 : decide ((s.seen.length : Int) = n) = ((s.seen.length : Int) == n) := by rw [Bool.eq_iff_iff]; simp
  cases h1 : inB s.coins 0 10000000 with
  | false => exact Gives.to (by simp [stratB, e5, h1]) (stratum_0 n ps s u w hn0 hn hu h1)
  | true =>
    cases h2 : inB s.lo 0 400 with
    | false => exact Gives.to (by simp [stratB, e5, h1, h2]) (stratum_1 n ps s u w hn0 hn hu h1 h2)
    | true =>
      cases h3 : inB s.hi 0 400 with
      | false => exact Gives.to (by simp [stratB, e5, h1, h2, h3]) (stratum_2 n ps s u w hn0 hn hu h1 h2 h3)
      | true =>
        cases h4 : decide (s.lo ≤ s.hi) with
        | false => exact Gives.to (by simp [stratB, e5, h1, h2, h3, h4]) (stratum_3 n ps s u w hn0 hn hu h1 h2 h3 h4)
        | true =>
          cases h5 : ((s.seen.length : Int) == n) with
          | false => exact Gives.to (by simp [stratB, e5, h1, h2, h3, h4, h5]) (stratum_4 n ps s u w hn0 hn hu h1 h2 h3 h4 h5)
          | true =>
            cases h6 : (s.seen.all fun x => inB x 0 400) with
            | false => exact Gives.to (by simp [stratB, e5, h1, h2, h3, h4, h5, h6]) (stratum_5 n ps s u w hn0 hn hu h1 h2 h3 h4 h5 h6)
            | true =>
              exact Gives.to (by simp only [stratB, e5, h1, h2, h3, h4, h5, h6, Bool.true_and]) (stratum_6 n ps s u w hn0 hn hu h1 h2 h3 h4 h5 h6)
end Go.Proofs.Ytobeffjdfhkjeaa
