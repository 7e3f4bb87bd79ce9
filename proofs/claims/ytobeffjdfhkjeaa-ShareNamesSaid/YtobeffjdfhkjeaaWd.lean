import Derived.Test.YtobeffjdfhkjeaaWi
import Derived.Test.YtobeffjdfhkjeaaU
set_option linter.unusedVariables false
set_option linter.unusedSimpArgs false
namespace Go.Proofs.Ytobeffjdfhkjeaa
open Go Go.Proofs Go.RowKit

attribute [local go_sem] Oper.semAt_some

/-! ### The widest stratum -/
def wdt (s : Strat) (c : Nat) : Int := (rangeAt s c).2 - (rangeAt s c).1
def wStep (k : Int) (s : Strat) (p : Int × Int) (c : Nat) : Int × Int := if p.2 < wdt s c then (k, wdt s c) else p
def wFold (k : Int) (s : Strat) (p : Int × Int) {n : Nat} (pre : List { j : Nat // j < n }) : Int × Int := pre.foldl (fun q x => wStep k s q x.1) p
theorem wFold_snoc (k : Int) (s : Strat) (p : Int × Int) {n : Nat} (pre : List { j : Nat // j < n }) (x : { j : Nat // j < n }) : wFold k s p (pre ++ [x]) = wStep k s (wFold k s p pre) x.1 := by
  simp [wFold, List.foldl_append]
theorem wFold_ups (k : Int) (s : Strat) (p : Int × Int) (hp : 0 ≤ p.2) {n : Nat} : ∀ j, j ≤ n → wFold k s p (ups n j) = if p.2 < wK s j then (k, wK s j) else p
  | 0, _ => by
    have e : ups n 0 = [] := rfl
    rw [e]
    simp only [wFold, List.foldl_nil]
    show p = if p.2 < (0 : Int) then (k, (0 : Int)) else p
    rw [if_neg (by omega)]
  | j + 1, h => by
    rw [ups_succ (by omega), wFold_snoc, wFold_ups k s p hp j (by omega)]
    show wStep k s _ j = if p.2 < max (wK s j) (wdt s j) then (k, max (wK s j) (wdt s j)) else p
    unfold wStep
    by_cases h1 : p.2 < wK s j
    · rw [if_pos h1]
      show (if wK s j < wdt s j then (k, wdt s j) else (k, wK s j)) = _
      by_cases h2 : wK s j < wdt s j
      · rw [if_pos h2, if_pos (by omega), show max (wK s j) (wdt s j) = wdt s j by omega]
      · rw [if_neg h2, if_pos (by omega), show max (wK s j) (wdt s j) = wK s j by omega]
    · rw [if_neg h1]
      by_cases h2 : p.2 < wdt s j
      · rw [if_pos h2, if_pos (by omega), show max (wK s j) (wdt s j) = wdt s j by omega]
      · rw [if_neg h2, if_neg (by omega)]
/-- The widest of the first strata: its number and its width. -/
def widK (ss : List Strat) : Nat → Int × Int
  | 0 => (0, 0)
  | k + 1 => if (widK ss k).2 < widthS (ss[k]?.getD Strat.none) then ((k : Int), widthS (ss[k]?.getD Strat.none)) else widK ss k
theorem widK_bd {n : Int} {ss : List Strat} (h : ∀ (j : Nat) (s : Strat), ss[j]? = some s → stratB n s = true) : ∀ k, (0 ≤ (widK ss k).1 ∧ (widK ss k).1 ≤ k) ∧ (0 ≤ (widK ss k).2 ∧ (widK ss k).2 ≤ 10000000000000)
  | 0 => by simp [widK]
  | k + 1 => by
    have ih := widK_bd h k
    have hw : 0 ≤ widthS (ss[k]?.getD Strat.none) ∧ widthS (ss[k]?.getD Strat.none) ≤ 10000000000000 := by
      cases e : ss[k]? with
      | none => simp [widthS, wK, Strat.none]
      | some s => exact wK_bd (h k s e) _
    simp only [widK]
    split
    · simp only; omega
    · omega
theorem wFold_bd {n' : Int} {s : Strat} (hs : stratB n' s = true) (k : Int) (p : Int × Int) (hp : 0 ≤ p.2 ∧ p.2 ≤ 10000000000000) {n : Nat} (pre : List { j : Nat // j < n }) : 0 ≤ (wFold k s p pre).2 ∧ (wFold k s p pre).2 ≤ 10000000000000 := by
  induction pre generalizing p with
  | nil => exact hp
  | cons x pre ih =>
    refine ih _ ?_
    simp only [wStep]
    split
    · rename_i h
      have := rangeAt_bd hs x.1
      simp only [wdt] at h ⊢
      omega
    · exact hp

theorem Widest_fault (n : Int) (v : Value) (ss : List Strat) (w : World) (hv : StrataAt w v ss) (hf : (faultI n ss != 0) = true) :
    Calls Try.prog 44 #[.agg #[.int .i64 n, v]] w (Gives w (.tuple #[.int .i64 0, .int .i64 0, .int .i64 (faultI n ss)])) := by
  have hb0 : Below w.heap.size w (((w.alloc (.cells #[.int .i64 n, v] 33)).alloc (.cells #[.int .i64 0] 3)).alloc (.cells #[.int .i64 0] 3)) := (((Below.refl _ _).alloc (Nat.le_refl _) _).alloc (by simp) _).alloc (by simp; omega) _
  obtain ⟨A, c, rfl, hc, hm⟩ := hv.form
  have r0 : (((w.alloc (.cells #[.int .i64 n, .slice A ss.length c] 33)).alloc (.cells #[.int .i64 0] 3)).alloc (.cells #[.int .i64 0] 3)).cell? ⟨w.heap.size + 1, 0, none⟩ = some (.int .i64 0) := by simp [go_sem]
  have r1 : (((w.alloc (.cells #[.int .i64 n, .slice A ss.length c] 33)).alloc (.cells #[.int .i64 0] 3)).alloc (.cells #[.int .i64 0] 3)).cell? ⟨w.heap.size + 1 + 1, 0, none⟩ = some (.int .i64 0) := by simp [go_sem]
  have r2 : (((w.alloc (.cells #[.int .i64 n, .slice A ss.length c] 33)).alloc (.cells #[.int .i64 0] 3)).alloc (.cells #[.int .i64 0] 3)).frozen? ⟨w.heap.size + 1, 0, none⟩ = false := by simp [go_sem]
  have r3 : (((w.alloc (.cells #[.int .i64 n, .slice A ss.length c] 33)).alloc (.cells #[.int .i64 0] 3)).alloc (.cells #[.int .i64 0] 3)).frozen? ⟨w.heap.size + 1 + 1, 0, none⟩ = false := by simp [go_sem]
  go_enter Try.func44, Try.ntmps44
  go_wp2_with fail
  refine (checkPool_any _ _ ss _ (hv.below hb0)).mono ?_
  rintro e w1 ⟨rfl, hb1⟩
  replace r2 : w1.frozen? ⟨w.heap.size + 1, 0, none⟩ = false := (hb1.frozen (p := ⟨w.heap.size + 1, 0, none⟩) (by simp)).trans r2
  replace r3 : w1.frozen? ⟨w.heap.size + 1 + 1, 0, none⟩ = false := (hb1.frozen (p := ⟨w.heap.size + 1 + 1, 0, none⟩) (by simp)).trans r3
  replace r0 := cell_below hb1 r0
  replace r1 := cell_below hb1 r1
  have hw1 := hb0.trans (hb1.mono hb0.size)
  go_wp2
  have q0 : ((w1.setCell ⟨w.heap.size + 1, 0, none⟩ (.int .i64 0)).setCell ⟨w.heap.size + 1 + 1, 0, none⟩ (.int .i64 0)).cell? ⟨w.heap.size + 1, 0, none⟩ = some (.int .i64 0) := by
    rw [World.cell?_setCell_other _ _ _ _ (by simp)]
    exact World.cell?_setCell_same' _ _ _ (by rw [r0]; rfl)
  have q1 : ((w1.setCell ⟨w.heap.size + 1, 0, none⟩ (.int .i64 0)).setCell ⟨w.heap.size + 1 + 1, 0, none⟩ (.int .i64 0)).cell? ⟨w.heap.size + 1 + 1, 0, none⟩ = some (.int .i64 0) :=
    World.cell?_setCell_same' _ _ _ (by rw [World.cell?_setCell_other _ _ _ _ (by simp), r1]; rfl)
  refine bodyPost_ret (v := .tuple #[.int .i64 0, .int .i64 0, .int .i64 (faultI n ss)]) (by simp [results, Try.results44, go_sem, q0, q1]) rfl ⟨rfl, ?_⟩
  exact (hw1.setCell (p := ⟨w.heap.size + 1, 0, none⟩) (by simp only; omega) _).setCell (p := ⟨w.heap.size + 1 + 1, 0, none⟩) (by simp only; omega) _

theorem Widest_none (n : Int) (v : Value) (ss : List Strat) (w : World) (hv : StrataAt w v ss) (hf : faultI n ss = 0) (hp : ss.length = 0) :
    Calls Try.prog 44 #[.agg #[.int .i64 n, v]] w (Gives w (.tuple #[.int .i64 0, .int .i64 0, .int .i64 7])) := by
  have hb0 : Below w.heap.size w (((w.alloc (.cells #[.int .i64 n, v] 33)).alloc (.cells #[.int .i64 0] 3)).alloc (.cells #[.int .i64 0] 3)) := (((Below.refl _ _).alloc (Nat.le_refl _) _).alloc (by simp) _).alloc (by simp; omega) _
  obtain ⟨A, c, rfl, hc, hm⟩ := hv.form
  have Hp := Lib.hid hp
  clear hp
  have r0 : (((w.alloc (.cells #[.int .i64 n, .slice A ss.length c] 33)).alloc (.cells #[.int .i64 0] 3)).alloc (.cells #[.int .i64 0] 3)).cell? ⟨w.heap.size + 1, 0, none⟩ = some (.int .i64 0) := by simp [go_sem]
  have r1 : (((w.alloc (.cells #[.int .i64 n, .slice A ss.length c] 33)).alloc (.cells #[.int .i64 0] 3)).alloc (.cells #[.int .i64 0] 3)).cell? ⟨w.heap.size + 1 + 1, 0, none⟩ = some (.int .i64 0) := by simp [go_sem]
  have r2 : (((w.alloc (.cells #[.int .i64 n, .slice A ss.length c] 33)).alloc (.cells #[.int .i64 0] 3)).alloc (.cells #[.int .i64 0] 3)).frozen? ⟨w.heap.size + 1, 0, none⟩ = false := by simp [go_sem]
  have r3 : (((w.alloc (.cells #[.int .i64 n, .slice A ss.length c] 33)).alloc (.cells #[.int .i64 0] 3)).alloc (.cells #[.int .i64 0] 3)).frozen? ⟨w.heap.size + 1 + 1, 0, none⟩ = false := by simp [go_sem]
  go_enter Try.func44, Try.ntmps44
  go_wp2_with fail
  refine (checkPool_any _ _ ss _ (hv.below hb0)).mono ?_
  rintro e w1 ⟨rfl, hb1⟩
  rw [hf]
  have hp0 : ((ss.length : Int) == 0) = true := by simp [Hp.out]
  have g1 : w1.cell? ⟨w.heap.size, 1, none⟩ = some (.slice A ss.length c) := cell_below hb1 (by simp [go_sem])
  replace r2 : w1.frozen? ⟨w.heap.size + 1, 0, none⟩ = false := (hb1.frozen (p := ⟨w.heap.size + 1, 0, none⟩) (by simp)).trans r2
  replace r3 : w1.frozen? ⟨w.heap.size + 1 + 1, 0, none⟩ = false := (hb1.frozen (p := ⟨w.heap.size + 1 + 1, 0, none⟩) (by simp)).trans r3
  replace r0 := cell_below hb1 r0
  replace r1 := cell_below hb1 r1
  have hw1 := hb0.trans (hb1.mono hb0.size)
  go_wp2
  have q0 : ((w1.setCell ⟨w.heap.size + 1, 0, none⟩ (.int .i64 0)).setCell ⟨w.heap.size + 1 + 1, 0, none⟩ (.int .i64 0)).cell? ⟨w.heap.size + 1, 0, none⟩ = some (.int .i64 0) := by
    rw [World.cell?_setCell_other _ _ _ _ (by simp)]
    exact World.cell?_setCell_same' _ _ _ (by rw [r0]; rfl)
  have q1 : ((w1.setCell ⟨w.heap.size + 1, 0, none⟩ (.int .i64 0)).setCell ⟨w.heap.size + 1 + 1, 0, none⟩ (.int .i64 0)).cell? ⟨w.heap.size + 1 + 1, 0, none⟩ = some (.int .i64 0) :=
    World.cell?_setCell_same' _ _ _ (by rw [World.cell?_setCell_other _ _ _ _ (by simp), r1]; rfl)
  refine bodyPost_ret (v := .tuple #[.int .i64 0, .int .i64 0, .int .i64 7]) (by simp [results, Try.results44, go_sem, q0, q1]) rfl ⟨rfl, ?_⟩
  exact (hw1.setCell (p := ⟨w.heap.size + 1, 0, none⟩) (by simp only; omega) _).setCell (p := ⟨w.heap.size + 1 + 1, 0, none⟩) (by simp only; omega) _

set_option maxRecDepth 100000 in
set_option maxHeartbeats 2000000 in
theorem Widest_ok (m : Nat) (v : Value) (ss : List Strat) (w : World) (hv : StrataAt w v ss) (hf : faultI m ss = 0) (hpos : 0 < ss.length) :
    Calls Try.prog 44 #[.agg #[.int .i64 m, v]] w (Gives w (.tuple #[.int .i64 (widK ss ss.length).1, .int .i64 (widK ss ss.length).2, .int .i64 0])) := by
  have hb0 : Below w.heap.size w (((w.alloc (.cells #[.int .i64 m, v] 33)).alloc (.cells #[.int .i64 0] 3)).alloc (.cells #[.int .i64 0] 3)) := (((Below.refl _ _).alloc (Nat.le_refl _) _).alloc (by simp) _).alloc (by simp; omega) _
  obtain ⟨A, c, rfl, hc, hm⟩ := hv.form
  have r0 : (((w.alloc (.cells #[.int .i64 m, .slice A ss.length c] 33)).alloc (.cells #[.int .i64 0] 3)).alloc (.cells #[.int .i64 0] 3)).heap[w.heap.size + 1]? = some (.cells #[.int .i64 0] 3 (0, 0)) := by
    rw [Below.heap_alloc _ _ _ (by simp)]
    have := World.alloc_heap_new (w.alloc (.cells #[.int .i64 m, .slice A ss.length c] 33)) (.cells #[.int .i64 0] 3)
    simpa using this
  have r1 : (((w.alloc (.cells #[.int .i64 m, .slice A ss.length c] 33)).alloc (.cells #[.int .i64 0] 3)).alloc (.cells #[.int .i64 0] 3)).heap[w.heap.size + 1 + 1]? = some (.cells #[.int .i64 0] 3 (0, 0)) := by
    have := World.alloc_heap_new ((w.alloc (.cells #[.int .i64 m, .slice A ss.length c] 33)).alloc (.cells #[.int .i64 0] 3)) (.cells #[.int .i64 0] 3)
    simpa using this
  have hf0 : (faultI m ss != 0) = false := by simp [hf]
  have hp0 : ((ss.length : Int) == 0) = false := beq_eq_false_iff_ne.2 (by omega)
  obtain ⟨hs8, hn1, hn5, hval⟩ := fault_zero hf
  have hm5 : m ≤ 5 := by omega
  refine (callsIn_wide (n := 3)).1 ?_
  refine callsIn_of_wp_marks Try.func44 rfl trivial ?_
  simp only [Try.ntmps44, List.size_toArray, List.length_cons, List.length_nil, Nat.reduceAdd, Nat.reduceSub, Array.replicate_succ, Array.replicate_zero, List.push_toArray, List.append_toArray, List.nil_append, List.cons_append]
  gi_wp2_with (first
    | (refine ⟨trivial, ?_⟩; gi_at_call 19; refine (callsIn_wide.2 (checkPool_any _ _ ss _ (hv.below hb0))).mono ?_; rintro e w1 ⟨rfl, hb1⟩; have g0 : w1.cell? ⟨w.heap.size, 0, none⟩ = some (.int .i64 m) := cell_below hb1 (by simp [go_sem]); have g1 : w1.cell? ⟨w.heap.size, 1, none⟩ = some (.slice A ss.length c) := cell_below hb1 (by simp [go_sem]); have hw1 := hb0.trans (hb1.mono hb0.size)))
  have hB1 : Boxed w1 (w.heap.size + 1) 3 (.int .i64 0) := (hb1.block _ (by simp)).trans r0
  have hB2 : Boxed w1 (w.heap.size + 1 + 1) 3 (.int .i64 0) := (hb1.block _ (by simp)).trans r1
  have hG : w.heap.size < w1.heap.size := by have := World.block_lt_of_cell? w1 _ g0; simpa using this
  have hG2 := hB2.lt
  clear r0 r1 hb0
  refine wpIn_loop (fun a' W => ∃ (k : Nat) (ds : List Nat) (u6 u7 u23 u24 u25 u26 u27 u28 u29 u39 : Value), (k ≤ ss.length ∧ Below w.heap.size w W ∧ Boxed W (w.heap.size + 1) 3 (.int .i64 (widK ss k).1) ∧ Boxed W (w.heap.size + 1 + 1) 3 (.int .i64 (widK ss k).2) ∧ OpenMarks w.heap.size W ds) ∧
    a' = { tmps := List.toArray ((.agg #[.int .i64 (m : Int), .slice A ss.length c]) :: (.pointer (some ⟨w.heap.size, 0, none⟩)) :: (.pointer (some ⟨w.heap.size + 1, 0, none⟩)) :: (.pointer (some ⟨w.heap.size + 1 + 1, 0, none⟩)) :: (.int .i64 0) :: (.int .i64 0) :: u6 :: u7 :: undef :: undef :: (.agg #[.int .i64 (m : Int), .slice A ss.length c]) :: (.int .i64 0) :: (.int .i64 0) :: (.bool false) :: undef :: (.pointer (some ⟨w.heap.size, 1, none⟩)) :: (.slice A ss.length c) :: (.int .i64 (ss.length : Int)) :: (.bool false) :: (.pointer (some ⟨w.heap.size, 1, none⟩)) :: (.slice A ss.length c) :: (.int .i64 (ss.length : Int)) :: (.int .i64 (k : Int)) :: u23 :: u24 :: u25 :: u26 :: u27 :: u28 :: u29 :: undef :: undef :: undef :: undef :: undef :: undef :: undef :: undef :: undef :: u39 :: undef :: undef :: []), defers := marks ds }) (fun a' _ => ss.length - (intOf (a'.tmps.getD 22 undef)).toNat) ?_ ?_
  · refine ⟨0, [], undef, undef, undef, undef, undef, undef, undef, undef, undef, undef, ⟨by omega, hw1, hB1, hB2, by simp [OpenMarks]⟩, rfl⟩
  rintro _ wr ⟨k, ds, u6, u7, u23, u24, u25, u26, u27, u28, u29, u39, ⟨hk, hbr, hbx1, hbx2, hmk⟩, rfl⟩
  dsimp only
  by_cases hlt : k < ss.length
  · obtain ⟨b, o, s, u, rfl, hs, hy, e0, e1, e2, e3, hby⟩ := hv.at_ hlt
    have q1 := hval k s hs
    have hok := seen_ok hn5 q1
    have q2 := stratB_iff.1 q1
    have hl := q2.2.2.2.2.1
    obtain ⟨A', c', rfl, hc', hm'⟩ := hy.form
    obtain ⟨b', o', x0, rfl, _, _, hb'⟩ := hy.at_ (k := 0) (by omega)
    replace e0 := cell_below hbr e0
    replace e1 := cell_below hbr e1
    replace e2 := cell_below hbr e2
    replace e3 := cell_below hbr e3
    have hyr := hy.below hbr
    have hba0 : Below wr.heap.size wr ((wr.alloc (.cells #[.int .i64 (k : Int)] 3)).alloc (.cells #[.int .i64 s.coins, .int .i64 s.lo, .int .i64 s.hi, .slice (some ⟨b', o', none⟩) s.seen.length c'] 86)) := ((Below.refl _ _).alloc (Nat.le_refl _) _).alloc (by simp) _
    have hbk0 : Boxed ((wr.alloc (.cells #[.int .i64 (k : Int)] 3)).alloc (.cells #[.int .i64 s.coins, .int .i64 s.lo, .int .i64 s.hi, .slice (some ⟨b', o', none⟩) s.seen.length c'] 86)) wr.heap.size 3 (.int .i64 (k : Int)) := (Below.heap_alloc _ _ _ (by simp)).trans (Boxed.new wr 3 (.int .i64 (k : Int)))
    gi_wp2_with (first
      | (refine ⟨trivial, ?_⟩; gi_at_call 60; refine (callsIn_wide.2 (look_any s _ _ (hyr.below hba0) hok (by omega) (by omega))).mono ?_; rintro e W3 ⟨rfl, hb3⟩)
      | (refine ⟨trivial, ?_⟩; gi_at_call 61; refine (callsIn_wide.2 (spans_val _ _ _ _ _ _ _)).mono ?_; rintro e W4 ⟨rfl, rfl⟩))
    have hsn := strat_nums q1
    obtain ⟨W0, hW0⟩ : ∃ W0, W3.alloc (.cells #[.int .i64 s.coins, .int .i64 s.lo, .int .i64 s.hi, .slice (some ⟨b', o', none⟩) s.seen.length c', .bool ((m : Int) == 1), .int .i64 (s.hi - sumL s.seen)] 95) = W0 := ⟨_, rfl⟩
    have hb30 : Below wr.heap.size wr W3 := hba0.trans (hb3.mono hba0.size)
    have hw30 : wr.heap.size + 1 < W3.heap.size := by have := hb3.size; simp at this; omega
    have hbW : Below wr.heap.size wr W0 := by rw [← hW0]; exact hb30.alloc hb30.size _
    have hsz : W0.heap.size = W3.heap.size + 1 := by rw [← hW0]; simp
    have hbk : Boxed W0 wr.heap.size 3 (.int .i64 (k : Int)) := by
      rw [← hW0]
      exact (Below.heap_alloc _ _ _ (by omega)).trans ((hb3.block _ hbk0.lt).trans hbk0)
    have hLook : LookIn (fun j => j = W3.heap.size ∨ j = b') W0 W3.heap.size ((m : Int) == 1) s.coins s.lo s.hi (s.hi - sumL s.seen) (some ⟨b', o', none⟩) s.seen c' := by
      refine ⟨.inl rfl, by rw [← hW0]; simp [go_sem], by rw [← hW0]; simp [go_sem], by rw [← hW0]; simp [go_sem], by rw [← hW0]; simp [go_sem], by rw [← hW0]; simp [go_sem], by rw [← hW0]; simp [go_sem], fun j hj => ?_⟩
      obtain ⟨b2, o2, x2, e2, hx2, hc2, _⟩ := (hyr.below hbW).at_ hj
      cases e2
      exact ⟨_, _, rfl, .inr rfl, by rw [hx2]; exact hc2⟩
    rw [hW0]
    have hgr : w.heap.size + 1 + 1 < wr.heap.size := hbx2.lt
    have hwr : w.heap.size ≤ wr.heap.size := hbr.size
    have hpb := widK_bd hval k
    refine wpIn_rangeFunc_ownH rfl (by omega) (gf := 81) (lb := #[.pointer (some ⟨W3.heap.size, 0, none⟩)]) rfl trivial (enters_of Try.func81 (by kernel_rfl) rfl)
      (spans_stops 2 (by omega) W3.heap.size (fun j => j = W3.heap.size ∨ j = b') ((m : Int) == 1) s.coins s.lo s.hi (s.hi - sumL s.seen) (some ⟨b', o', none⟩) s.seen c' (by omega) hsn.2.1.1 hsn.1.1 hsn.1.2
        (fun x hx => by have := hsn.2.2.2 x hx; omega) W0 (fun j hj => by rcases hj with rfl | rfl <;> omega) hLook) Keep.trans
      (fun W l o1 o2 hl ho _ _ j hj => World.putObj_heap_other (by rcases hj with rfl | rfl <;> omega)) (Below.refl _ _) (fun _ => rfl)
      (fun pre W => (((Boxed W (w.heap.size + 1) 3 (.int .i64 (wFold k s (widK ss k) pre).1) ∧ Boxed W (w.heap.size + 1 + 1) 3 (.int .i64 (wFold k s (widK ss k) pre).2)) ∧ Boxed W wr.heap.size 3 (.int .i64 (k : Int))) ∧ Below w.heap.size w W) ∧ (W0.heap.size ≤ W.heap.size ∧ OpenMarks w.heap.size W ds))
      (fun _ _ _ => False) ?hI (fun _ _ _ _ _ hs _ _ => hs) ?h0
      (fun x a' W => ∃ Bx, W0.heap.size ≤ Bx ∧ W.heap[Bx]? = some (.cells #[.int .i64 (rangeAt s x.1).1, .int .i64 (rangeAt s x.1).2] 52 (0, 0)) ∧ a' = { tmps := List.toArray ((.agg #[.int .i64 (m : Int), .slice (some ⟨b, o, none⟩) ss.length c]) :: (.pointer (some ⟨w.heap.size, 0, none⟩)) :: (.pointer (some ⟨w.heap.size + 1, 0, none⟩)) :: (.pointer (some ⟨w.heap.size + 1 + 1, 0, none⟩)) :: (.int .i64 0) :: (.int .i64 0) :: (.pointer (some ⟨wr.heap.size, 0, none⟩)) :: (.pointer (some ⟨wr.heap.size + 1, 0, none⟩)) :: undef :: (.pointer (some ⟨Bx, 0, none⟩)) :: (.agg #[.int .i64 (m : Int), .slice (some ⟨b, o, none⟩) ss.length c]) :: (.int .i64 0) :: (.int .i64 0) :: (.bool false) :: undef :: (.pointer (some ⟨w.heap.size, 1, none⟩)) :: (.slice (some ⟨b, o, none⟩) ss.length c) :: (.int .i64 (ss.length : Int)) :: (.bool false) :: (.pointer (some ⟨w.heap.size, 1, none⟩)) :: (.slice (some ⟨b, o, none⟩) ss.length c) :: (.int .i64 (ss.length : Int)) :: (.int .i64 (k : Int)) :: (.bool true) :: (.int .i64 (k : Int)) :: (.pointer (some ⟨b, o + k * 4, none⟩)) :: (.agg #[.int .i64 s.coins, .int .i64 s.lo, .int .i64 s.hi, .slice (some ⟨b', o', none⟩) s.seen.length c']) :: (.agg #[.int .i64 s.coins, .int .i64 s.lo, .int .i64 s.hi, .slice (some ⟨b', o', none⟩) s.seen.length c']) :: (.agg #[.int .i64 s.coins, .int .i64 s.lo, .int .i64 s.hi, .slice (some ⟨b', o', none⟩) s.seen.length c', .bool ((m : Int) == 1), .int .i64 (s.hi - sumL s.seen)]) :: (.func (.func 81) #[] #[.pointer (some ⟨W3.heap.size, 0, none⟩)]) :: (.int .i64 (x.1 : Int)) :: (.agg #[.int .i64 (rangeAt s x.1).1, .int .i64 (rangeAt s x.1).2]) :: undef :: undef :: undef :: undef :: undef :: undef :: undef :: u39 :: undef :: undef :: []), defers := [] })
      ?hAx ?assign ?body ?done ?stop
    case hI => exact OwnFrom.and (OwnFrom.and (OwnFrom.and (OwnFrom.and (Own.from (boxed_own _ _ _) _) (Own.from (boxed_own _ _ _) _)) (Own.from (boxed_own _ _ _) _)) (ownFrom_below (Nat.le_refl _) (by omega))) (OwnFrom.and size_own (OpenMarks.own fun d hd => Nat.lt_of_lt_of_le (Array.getElem?_eq_some_iff.1 (hmk.2 d hd).2).1 hbW.size))
    case h0 => exact ⟨⟨⟨⟨(hbW.block _ hbx1.lt).trans hbx1, (hbW.block _ hbx2.lt).trans hbx2⟩, hbk⟩, hbr.trans (hbW.mono hbr.size)⟩, Nat.le_refl _, hmk.keeps (keeps_below hbW)⟩
    case hAx =>
      rintro x a' _ X Y row ⟨Bx, h1, h2, h3⟩ hg hr
      refine ⟨Bx, h1, (hg.block Bx (Array.getElem?_eq_some_iff.1 h2).1 (fun e => ?_)).trans h2, h3⟩
      obtain ⟨_, o, ho, hc⟩ := hr Bx e.symm
      rw [h2] at ho
      cases ho
      cases hc
    case assign =>
      rintro id pre x W K hI hK
      have hE : spanE ((m : Int) == 1) s.coins s.lo s.hi (s.hi - sumL s.seen) s.seen x = #[.int .i64 (x.1 : Int), .agg #[.int .i64 (rangeAt s x.1).1, .int .i64 (rangeAt s x.1).2]] := by
        simp only [spanE, rangeAt, hl]
      rw [hE]
      generalize (rangeAt s x.1).1 = y1 at *
      generalize (rangeAt s x.1).2 = y2 at *
      gi_wp2
      refine hK _ _ ((KeepsOthers.alloc _ _).from _) ?_ ?_ ⟨W.heap.size, hI.2.1, World.alloc_heap_new _ _, rfl⟩
      · exact fun j hj => Below.heap_alloc _ _ _ (by have := hI.2.1; rcases hj with rfl | rfl <;> omega)
      · exact ⟨⟨⟨⟨hI.1.1.1.1.alloc _, hI.1.1.1.2.alloc _⟩, hI.1.1.2.alloc _⟩, hI.1.2.alloc hI.1.2.size _⟩, by have := hI.2.1; simp; omega, hI.2.2.keeps (KeepsOthers.alloc _ _)⟩
    case body =>
      rintro id pre ⟨jx, hjx⟩ a' W hlW ⟨r, hrec⟩ ⟨⟨⟨⟨hc1, hc2⟩, hck⟩, hbw⟩, hsW, hmW⟩ ⟨Bx, hBx, hbX, rfl⟩ hpre
      dsimp only
      have xc0 : W.cell? ⟨Bx, 0, none⟩ = some (.int .i64 (rangeAt s jx).1) := by simp [World.cell?, hbX]
      have xc1 : W.cell? ⟨Bx, 1, none⟩ = some (.int .i64 (rangeAt s jx).2) := by simp [World.cell?, hbX]
      have hstep : wFold k s (widK ss k) (pre ++ [⟨jx, hjx⟩]) = wStep k s (wFold k s (widK ss k) pre) jx := wFold_snoc _ _ _ _ _
      have bd := wFold_bd q1 k (widK ss k) hpb.2 pre
      have bd2 := rangeAt_bd q1 jx
      obtain ⟨⟨p1, p2⟩, hp⟩ : ∃ y, wFold k s (widK ss k) pre = y := ⟨_, rfl⟩
      rw [hp] at hc1 hc2 bd
      obtain ⟨⟨y1, y2⟩, hy1⟩ : ∃ y, rangeAt s jx = y := ⟨_, rfl⟩
      rw [hy1] at xc0 xc1 bd2
      dsimp only at hc1 hc2 bd xc0 xc1 bd2
      have hS : wFold k s (widK ss k) (pre ++ [⟨jx, hjx⟩]) = if p2 < y2 - y1 then ((k : Int), y2 - y1) else (p1, p2) := by
        rw [hstep, hp]
        simp only [wStep, wdt, hy1]
      have HS := Lib.hid hS
      rw [hy1]
      have SC := hc2.cell
      have SK := hck.cell
      have SW := And.intro SC (And.intro SK (And.intro xc0 xc1))
      have fin : ∀ W', Below W.heap.size W W' → KeepsFrom W0.heap.size W W' ∧ Keep (fun j => j = W3.heap.size ∨ j = b') W W' ∧
          (((Boxed W' (w.heap.size + 1) 3 (.int .i64 p1) ∧ Boxed W' (w.heap.size + 1 + 1) 3 (.int .i64 p2)) ∧ Boxed W' wr.heap.size 3 (.int .i64 (k : Int))) ∧ Below w.heap.size w W') ∧ (W0.heap.size ≤ W'.heap.size ∧ OpenMarks w.heap.size W' ds) := by
        intro W' hb
        refine ⟨(keeps_below hb).from _, Keep.below (fun j hj => by rcases hj with rfl | rfl <;> omega) hb, ⟨⟨⟨(hb.block _ hc1.lt).trans hc1, (hb.block _ hc2.lt).trans hc2⟩, (hb.block _ hck.lt).trans hck⟩, hbw.trans (hb.mono hbw.size)⟩, ?_, hmW.keeps (keeps_below hb)⟩
        have := hb.size; omega
      have fin2 : ∀ W', Below W.heap.size W W' → KeepsFrom W0.heap.size W ((W'.setCell ⟨w.heap.size + 1, 0, none⟩ (.int .i64 (k : Int))).setCell ⟨w.heap.size + 1 + 1, 0, none⟩ (.int .i64 (y2 - y1))) ∧ Keep (fun j => j = W3.heap.size ∨ j = b') W ((W'.setCell ⟨w.heap.size + 1, 0, none⟩ (.int .i64 (k : Int))).setCell ⟨w.heap.size + 1 + 1, 0, none⟩ (.int .i64 (y2 - y1))) ∧
          (((Boxed ((W'.setCell ⟨w.heap.size + 1, 0, none⟩ (.int .i64 (k : Int))).setCell ⟨w.heap.size + 1 + 1, 0, none⟩ (.int .i64 (y2 - y1))) (w.heap.size + 1) 3 (.int .i64 (k : Int)) ∧ Boxed ((W'.setCell ⟨w.heap.size + 1, 0, none⟩ (.int .i64 (k : Int))).setCell ⟨w.heap.size + 1 + 1, 0, none⟩ (.int .i64 (y2 - y1))) (w.heap.size + 1 + 1) 3 (.int .i64 (y2 - y1))) ∧ Boxed ((W'.setCell ⟨w.heap.size + 1, 0, none⟩ (.int .i64 (k : Int))).setCell ⟨w.heap.size + 1 + 1, 0, none⟩ (.int .i64 (y2 - y1))) wr.heap.size 3 (.int .i64 (k : Int))) ∧ Below w.heap.size w ((W'.setCell ⟨w.heap.size + 1, 0, none⟩ (.int .i64 (k : Int))).setCell ⟨w.heap.size + 1 + 1, 0, none⟩ (.int .i64 (y2 - y1)))) ∧ (W0.heap.size ≤ ((W'.setCell ⟨w.heap.size + 1, 0, none⟩ (.int .i64 (k : Int))).setCell ⟨w.heap.size + 1 + 1, 0, none⟩ (.int .i64 (y2 - y1))).heap.size ∧ OpenMarks w.heap.size ((W'.setCell ⟨w.heap.size + 1, 0, none⟩ (.int .i64 (k : Int))).setCell ⟨w.heap.size + 1 + 1, 0, none⟩ (.int .i64 (y2 - y1))) ds) := by
        intro W' hb
        have hX1 : ¬ ((fun j => j = W3.heap.size ∨ j = b') (w.heap.size + 1)) := by dsimp only; omega
        have hX2 : ¬ ((fun j => j = W3.heap.size ∨ j = b') (w.heap.size + 1 + 1)) := by dsimp only; omega
        have d1 : Boxed W' (w.heap.size + 1) 3 (.int .i64 p1) := (hb.block _ hc1.lt).trans hc1
        have d2 : Boxed W' (w.heap.size + 1 + 1) 3 (.int .i64 p2) := (hb.block _ hc2.lt).trans hc2
        have d3 : Boxed W' wr.heap.size 3 (.int .i64 (k : Int)) := (hb.block _ hck.lt).trans hck
        have hk := (keeps_below hb).trans ((KeepsOthers.setCell W' ⟨w.heap.size + 1, 0, none⟩ (.int .i64 (k : Int))).trans (KeepsOthers.setCell _ ⟨w.heap.size + 1 + 1, 0, none⟩ (.int .i64 (y2 - y1))))
        refine ⟨hk.from _, ((Keep.below (fun j hj => by rcases hj with rfl | rfl <;> omega) hb).setCell hX1 _ _).setCell hX2 _ _, ⟨⟨⟨?_, ?_⟩, ?_⟩, ?_⟩, ?_, hmW.keeps hk⟩
        · exact (heap_setCell_other _ _ _ _ (by omega)).trans (d1.set _)
        · exact Boxed.set _ (W := W'.setCell ⟨w.heap.size + 1, 0, none⟩ (.int .i64 (k : Int))) (show _ = _ from (heap_setCell_other _ _ _ _ (by omega)).trans d2)
        · exact (heap_setCell_other _ _ _ _ (by omega)).trans ((heap_setCell_other _ _ _ _ (by omega)).trans d3)
        · exact ((hbw.trans (hb.mono hbw.size)).setCell (p := ⟨w.heap.size + 1, 0, none⟩) (by simp only; omega) _).setCell (p := ⟨w.heap.size + 1 + 1, 0, none⟩) (by simp only; omega) _
        · exact Nat.le_trans (by omega) hk.size
      clear hf hval q2 hsn hpb hp hy1 hstep hS
      gi_wp2_with fail
      refine wpIn_region_pickA [0, 2] 2 (fun _ => true) (fun w' => w'.cell? ⟨w.heap.size + 1 + 1, 0, none⟩ = some (.int .i64 p2) ∧ w'.cell? ⟨wr.heap.size, 0, none⟩ = some (.int .i64 (k : Int)) ∧ w'.cell? ⟨Bx, 0, none⟩ = some (.int .i64 y1) ∧ w'.cell? ⟨Bx, 1, none⟩ = some (.int .i64 y2)) (by kernel_rfl) (by kernel_rfl) (fun ⟨_, _, h⟩ => h) (fun _ _ _ _ _ h => h) SW (fun hne => ?_)
      have m0 := fun x : Meets (fun w' => w'.cell? ⟨w.heap.size + 1 + 1, 0, none⟩ = some (.int .i64 p2) ∧ w'.cell? ⟨wr.heap.size, 0, none⟩ = some (.int .i64 (k : Int)) ∧ w'.cell? ⟨Bx, 0, none⟩ = some (.int .i64 y1) ∧ w'.cell? ⟨Bx, 1, none⟩ = some (.int .i64 y2)) => x.property
      have n0 := fun x => (m0 x).1
      have n1 := fun x => (m0 x).2.1
      have n2 := fun x => (m0 x).2.2.1
      have n3 := fun x => (m0 x).2.2.2
      clear m0
      simp only [pick, pickN, List.filterMap_cons, List.filterMap_nil, List.getElem?_cons_zero, List.getElem?_cons_succ, Option.map_some]
      repeat (change wpQuiet _ _ _ _ (_ :: _) _; go_big_quiet_step (fail))
      refine wpQuiet_nil ?_
      clear n0 n1 n2 n3 hne
      have d0 : Below W.heap.size W W.drew := (Below.refl _ _).drew
      refine wpAnyF_of_pick [1, 3] _ _ _ (by simp) (by kernel_rfl) ?_
      simp only [pickN, List.filterMap_cons, List.filterMap_nil, List.getElem?_cons_zero, List.getElem?_cons_succ, Option.map_some]
      refine wpSeqP_step (fun K hK => ?_)
      go_simp
      refine (width_any y1 y2 _ (by omega) (by omega) (by omega) (by omega)).mono ?_
      rintro _ W5 ⟨rfl, hb5⟩
      replace hb5 : Below W.heap.size W W5 := d0.trans (hb5.mono d0.size)
      refine hK.out _ _ (fun _ => ⟨cell_below hb5 SW.1, cell_below hb5 SW.2.1, cell_below hb5 SW.2.2.1, cell_below hb5 SW.2.2.2⟩) ?_
      clear hK K
      refine wpSeqP_step (fun K hK => ?_)
      go_simp
      refine hK.out _ _ (fun _ => ⟨cell_below hb5 SW.1, cell_below hb5 SW.2.1, cell_below hb5 SW.2.2.1, cell_below hb5 SW.2.2.2⟩) ?_
      clear hK K
      refine wpSeqP_nil ?_
      gi_wp2_with fail
      · rename_i hlt2
        have SW5 := And.intro (cell_below hb5 SW.1) (And.intro (cell_below hb5 SW.2.1) (And.intro (cell_below hb5 SW.2.2.1) (cell_below hb5 SW.2.2.2)))
        replace SW5 := And.intro (cell_below (Below.refl _ _).drew SW5.1) (And.intro (cell_below (Below.refl _ _).drew SW5.2.1) (And.intro (cell_below (Below.refl _ _).drew SW5.2.2.1) (cell_below (Below.refl _ _).drew SW5.2.2.2)))
        refine wpIn_region_pickA [0, 1] 3 (fun j => j != 4) (fun w' => w'.cell? ⟨w.heap.size + 1 + 1, 0, none⟩ = some (.int .i64 p2) ∧ w'.cell? ⟨wr.heap.size, 0, none⟩ = some (.int .i64 (k : Int)) ∧ w'.cell? ⟨Bx, 0, none⟩ = some (.int .i64 y1) ∧ w'.cell? ⟨Bx, 1, none⟩ = some (.int .i64 y2)) (by kernel_rfl) (by kernel_rfl) (fun ⟨_, _, h⟩ => h) (fun _ _ _ _ _ h => h) SW5 (fun hne => ?_)
        have m0 := fun x : Meets (fun w' => w'.cell? ⟨w.heap.size + 1 + 1, 0, none⟩ = some (.int .i64 p2) ∧ w'.cell? ⟨wr.heap.size, 0, none⟩ = some (.int .i64 (k : Int)) ∧ w'.cell? ⟨Bx, 0, none⟩ = some (.int .i64 y1) ∧ w'.cell? ⟨Bx, 1, none⟩ = some (.int .i64 y2)) => x.property
        have n0 := fun x => (m0 x).1
        have n1 := fun x => (m0 x).2.1
        have n2 := fun x => (m0 x).2.2.1
        have n3 := fun x => (m0 x).2.2.2
        clear m0
        simp only [pick, pickN, List.filterMap_cons, List.filterMap_nil, List.getElem?_cons_zero, List.getElem?_cons_succ, Option.map_some]
        repeat (change wpQuiet _ _ _ _ (_ :: _) _; go_big_quiet_step (fail))
        refine wpQuiet_nil ?_
        clear n0 n1 n2 n3 hne
        have d5 : Below W.heap.size W W5.drew := hb5.trans ((Below.refl _ _).drew)
        refine wpAnyF_of_pick [2, 3, 4] _ _ _ (by simp) (by kernel_rfl) ?_
        simp only [pickN, List.filterMap_cons, List.filterMap_nil, List.getElem?_cons_zero, List.getElem?_cons_succ, Option.map_some]
        refine wpSeqP_step (fun K hK => ?_)
        go_simp
        refine (width_any y1 y2 _ (by omega) (by omega) (by omega) (by omega)).mono ?_
        rintro _ W6 ⟨rfl, hb6⟩
        replace hb6 : Below W.heap.size W W6 := d5.trans (hb6.mono d5.size)
        refine hK.out _ _ (fun _ => ⟨cell_below hb6 SW.1, cell_below hb6 SW.2.1, cell_below hb6 SW.2.2.1, cell_below hb6 SW.2.2.2⟩) ?_
        clear hK K
        have d1 : Boxed W6 (w.heap.size + 1) 3 (.int .i64 p1) := (hb6.block _ hc1.lt).trans hc1
        have d2 : Boxed W6 (w.heap.size + 1 + 1) 3 (.int .i64 p2) := (hb6.block _ hc2.lt).trans hc2
        have d3 : Boxed (W6.setCell ⟨w.heap.size + 1, 0, none⟩ (.int .i64 (k : Int))) (w.heap.size + 1 + 1) 3 (.int .i64 p2) := (heap_setCell_other _ _ _ _ (by omega)).trans d2
        have z0 := d1.frozen
        have z1 := d1.cell
        have z2 := d3.frozen
        have z3 := d3.cell
        refine wpSeqP_step (fun K hK => ?_)
        go_simp
        refine hK.out _ _ (fun _ => ⟨?_, ?_, ?_, ?_⟩) ?_
        · rw [World.cell?_setCell_other _ _ _ _ (by simp)]; exact cell_below hb6 SW.1
        · rw [World.cell?_setCell_other _ _ _ _ (by simp <;> omega)]; exact cell_below hb6 SW.2.1
        · rw [World.cell?_setCell_other _ _ _ _ (by simp <;> omega)]; exact cell_below hb6 SW.2.2.1
        · rw [World.cell?_setCell_other _ _ _ _ (by simp <;> omega)]; exact cell_below hb6 SW.2.2.2
        clear hK K
        refine wpSeqP_step (fun K hK => ?_)
        go_simp
        refine hK.out _ _ (fun h => by cases h) ?_
        refine wpSeqP_nil ?_
        have hf := fin2 _ hb6
        have hS := HS.out
        rw [if_pos hlt2] at hS
        exact ⟨hf.1, hf.2.1, by dsimp only; rw [hS]; exact hf.2.2⟩
      · rename_i hlt2
        have hf := fin _ hb5
        have hS := HS.out
        rw [if_neg (by omega)] at hS
        exact ⟨hf.1, hf.2.1, by dsimp only; rw [hS]; exact hf.2.2⟩
    case done =>
      rintro D ys W hD rfl ⟨⟨⟨⟨hc1, hc2⟩, hck⟩, hbw⟩, hsW, hmW⟩ hK
      rw [wFold_ups _ _ _ hpb.2.1 _ (Nat.le_refl _)] at hc1 hc2
      have hwid : widK ss (k + 1) = if (widK ss k).2 < wK s s.seen.length then ((k : Int), wK s s.seen.length) else widK ss k := by
        simp only [widK, hs, Option.getD_some, widthS]
      rw [← hwid] at hc1 hc2
      gi_wp2
      refine ⟨⟨k + 1, D :: ds, _, _, _, _, _, _, _, _, _, _, ⟨by omega, hbw, hc1, hc2, ?_⟩, rfl⟩, ?_⟩
      · refine ⟨List.nodup_cons.2 ⟨fun hm => ?_, hmk.1⟩, fun d hd => ?_⟩
        · have h1 := (Array.getElem?_eq_some_iff.1 (hmk.2 D hm).2).1
          have h2 := hbW.size
          omega
        · rcases List.mem_cons.1 hd with rfl | hd
          · exact ⟨by have := hbW.size; omega, hK⟩
          · exact hmW.2 d hd
      · simp [intOf]
        omega
    case stop =>
      rintro D c pre W _ _ h _
      exact h.elim
  · obtain rfl : k = ss.length := by omega
    have c2 := hbx1.cell
    have c3 := hbx2.cell
    have c4 := hbx1.frozen
    have c5 := hbx2.frozen
    gi_wp2_with fail
    gi_region
    gi_wp2_with fail
    have hw9 : Below w.heap.size w ((wr.setCell ⟨w.heap.size + 1, 0, none⟩ (.int .i64 (widK ss ss.length).1)).setCell ⟨w.heap.size + 1 + 1, 0, none⟩ (.int .i64 (widK ss ss.length).2)).drew := ((hbr.setCell (p := ⟨w.heap.size + 1, 0, none⟩) (by simp only; omega) _).setCell (p := ⟨w.heap.size + 1 + 1, 0, none⟩) (by simp only; omega) _).drew
    have k2 : Boxed ((wr.setCell ⟨w.heap.size + 1, 0, none⟩ (.int .i64 (widK ss ss.length).1)).setCell ⟨w.heap.size + 1 + 1, 0, none⟩ (.int .i64 (widK ss ss.length).2)).drew (w.heap.size + 1) 3 (.int .i64 (widK ss ss.length).1) := (heap_setCell_other (wr.setCell ⟨w.heap.size + 1, 0, none⟩ (.int .i64 (widK ss ss.length).1)) _ _ _ (by omega)).trans (hbx1.set _)
    have k3 : Boxed ((wr.setCell ⟨w.heap.size + 1, 0, none⟩ (.int .i64 (widK ss ss.length).1)).setCell ⟨w.heap.size + 1 + 1, 0, none⟩ (.int .i64 (widK ss ss.length).2)).drew (w.heap.size + 1 + 1) 3 (.int .i64 (widK ss ss.length).2) := Boxed.set (W := wr.setCell ⟨w.heap.size + 1, 0, none⟩ (.int .i64 (widK ss ss.length).1)) (v := .int .i64 (widK ss ss.length).2) _ ((heap_setCell_other wr _ _ _ (by omega)).trans hbx2)
    have hm9 : OpenMarks w.heap.size ((wr.setCell ⟨w.heap.size + 1, 0, none⟩ (.int .i64 (widK ss ss.length).1)).setCell ⟨w.heap.size + 1 + 1, 0, none⟩ (.int .i64 (widK ss ss.length).2)).drew ds := (hmk.keeps ((KeepsOthers.setCell wr ⟨w.heap.size + 1, 0, none⟩ (.int .i64 (widK ss ss.length).1)).trans (KeepsOthers.setCell _ ⟨w.heap.size + 1 + 1, 0, none⟩ (.int .i64 (widK ss ss.length).2)))).keeps (keeps_below (Below.refl _ _).drew)
    refine leaves_marks w.heap.size ds _ hm9 (fun W' hb' hk' => ⟨.tuple #[.int .i64 (widK ss ss.length).1, .int .i64 (widK ss ss.length).2, .int .i64 0], ?_, rfl, hw9.trans hb'⟩)
    have q2 : W'.cell? ⟨w.heap.size + 1, 0, none⟩ = some (.int .i64 (widK ss ss.length).1) := Boxed.cell (hk' _ _ k2 rfl)
    have q3 : W'.cell? ⟨w.heap.size + 1 + 1, 0, none⟩ = some (.int .i64 (widK ss ss.length).2) := Boxed.cell (hk' _ _ k3 rfl)
    simp [results, Try.results44, go_sem, q2, q3]

theorem Widest_any (m : Nat) (v : Value) (ss : List Strat) (w : World) (hv : StrataAt w v ss) (hf : faultI m ss = 0) :
    Calls Try.prog 44 #[.agg #[.int .i64 m, v]] w (Gives w (.tuple #[.int .i64 (widK ss ss.length).1, .int .i64 (widK ss ss.length).2, .int .i64 (if ss.length = 0 then 7 else 0)])) := by
  by_cases hp : ss.length = 0
  · rw [if_pos hp, hp]
    exact Widest_none m v ss w hv hf hp
  · rw [if_neg hp]
    exact Widest_ok m v ss w hv hf (by omega)
end Go.Proofs.Ytobeffjdfhkjeaa
