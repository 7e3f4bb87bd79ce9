import Derived.Test.YtmbkpfkkohpnkaaPe
import Derived.Test.YtmbkpfkkohpnkaaKy
import Derived.Test.YtmbkpfkkohpnkaaCo
set_option linter.unusedVariables false
set_option linter.unusedSimpArgs false
namespace Go.Proofs.Ytmbkpfkkohpnkaa
open Go Go.Proofs Go.RowKit

/-! ### The key of a tap -/
def numV (m n : Int) : Value := .agg #[.int .i64 m, .int .i64 n]
def tpV (x : Tp) : Value := .agg #[.int .i64 x.machine, .int .i64 x.number, .int .i64 x.card, .int .i64 x.ride.day, .int .i64 x.ride.minute, .int .i64 x.ride.low, .int .i64 x.ride.high]
theorem num_row : (139 : TypeId) < Try.prog.types.size := of_decide_eq_true (by kernel_rfl)
theorem num_wide : (match Try.prog.underlying 139 with | some (.array _ _) | some (.struct _) => true | _ => false) = true := by kernel_rfl
set_option maxRecDepth 100000 in
theorem num_law : Maps.Keyed Try.prog 139 := Maps.Keyed.of_law (deep_law_laid laidOut (m := 2) (by omega) num_row (by kernel_rfl) num_wide)
set_option maxRecDepth 100000 in
theorem num_keys : ((List.range 4).all fun (m : Nat) => (List.range 50).all fun (n : Nat) => (keyOf Try.prog 139 (numV m n)).isSome) = true := by kernel_rfl
theorem num_key {m n : Int} (h0 : 0 ≤ m) (h1 : m ≤ 3) (h2 : 0 ≤ n) (h3 : n < 50) : ∃ l, keyOf Try.prog 139 (numV m n) = some l := by
  have h := List.all_eq_true.1 num_keys m.toNat (List.mem_range.2 (by omega))
  have h' := List.all_eq_true.1 h n.toNat (List.mem_range.2 (by omega))
  rw [Int.toNat_of_nonneg h0, Int.toNat_of_nonneg h2] at h'
  exact Option.isSome_iff_exists.1 h'
theorem numV_inj {m n m' n' : Int} (h : numV m n = numV m' n') : m = m' ∧ n = n' := by
  unfold numV at h
  simpa using h
theorem tpV_inj {x y : Tp} (h : tpV x = tpV y) : x = y := by
  unfold tpV at h
  obtain ⟨a, b, c, d, e, f, g⟩ := x
  obtain ⟨a', b', c', d', e', f', g'⟩ := y
  simp at h
  simp [h]
/-! ### Two taps compared -/
theorem tap_fields : (Try.prog.fieldsOf 91).toList.map (fun f => (f.name, f.type, f.offset)) = [("Machine", 3, 0), ("Number", 3, 1), ("Card", 3, 2), ("Ride", 70, 3)] := by kernel_rfl
theorem tap_under : Try.prog.underlying 91 = some (.struct (Try.prog.fieldsOf 91)) := by kernel_rfl
theorem tap_held : Try.prog.stoodInHeld 91 = false := by kernel_rfl
theorem tap_guardN (w : World) (x y : Operand) (xs ys : Array Value) : (eqGuard .neq 91 x y (.agg xs) (.agg ys)).run Try.prog w = .ok () w := run_eqGuard_agg w _ _ _ _ _ _ (by kernel_rfl)
theorem ride_equal_at (w : World) (r s : Rd) (d : Nat) : (Op.equalIn (d + 2) 70 (.agg #[.int .i64 r.day, .int .i64 r.minute, .int .i64 r.low, .int .i64 r.high]) (.agg #[.int .i64 s.day, .int .i64 s.minute, .int .i64 s.low, .int .i64 s.high])).run Try.prog w = .ok (decide (r = s)) w := by
  rw [run_equalIn_agg w (d + 1) _ _ _ ride_under ride_held]
  have hf := ride_fields
  match h : (Try.prog.fieldsOf 70).toList with
  | [f, g, k, m] =>
    rw [h] at hf
    simp only [List.map_cons, List.map_nil, List.cons.injEq, Prod.mk.injEq, and_true] at hf
    obtain ⟨⟨n1, t1, o1⟩, ⟨n2, t2, o2⟩, ⟨n3, t3, o3⟩, n4, t4, o4⟩ := hf
    simp only [Op.eqFields, n1, n2, n3, n4, t1, t2, t3, t4, o1, o2, o3, o4]
    have e : decide (r = s) = (decide (r.day = s.day) && (decide (r.minute = s.minute) && (decide (r.low = s.low) && decide (r.high = s.high)))) := by
      cases r
      cases s
      simp
    rw [e]
    simp [go_sem]
    by_cases h1 : r.day = s.day
    · by_cases h2 : r.minute = s.minute
      · by_cases h3 : r.low = s.low
        · by_cases h4 : r.high = s.high
          · simp [h1, h2, h3, h4]
          · simp [h1, h2, h3, h4]
        · simp [h1, h2, h3]
      · simp [h1, h2]
    · simp [h1]
  | [] => rw [h] at hf; simp at hf
  | [f] => rw [h] at hf; simp at hf
  | [f, g] => rw [h] at hf; simp at hf
  | [f, g, k] => rw [h] at hf; simp at hf
  | f :: g :: k :: m :: n :: r => rw [h] at hf; simp at hf
theorem rd_ext {r s : Rd} (h1 : r.day = s.day) (h2 : r.minute = s.minute) (h3 : r.low = s.low) (h4 : r.high = s.high) : r = s := by
  cases r
  cases s
  simp_all
theorem tap_equal (w : World) (x y : Tp) : (Op.equal 91 (.agg #[.int .i64 x.machine, .int .i64 x.number, .int .i64 x.card, .int .i64 x.ride.day, .int .i64 x.ride.minute, .int .i64 x.ride.low, .int .i64 x.ride.high]) (.agg #[.int .i64 y.machine, .int .i64 y.number, .int .i64 y.card, .int .i64 y.ride.day, .int .i64 y.ride.minute, .int .i64 y.ride.low, .int .i64 y.ride.high])).run Try.prog w = .ok (decide (x = y)) w := by
  unfold Op.equal Op.maxDepth
  rw [run_equalIn_agg w 9999 _ _ _ tap_under tap_held]
  have hf := tap_fields
  match h : (Try.prog.fieldsOf 91).toList with
  | [f, g, k, m] =>
    rw [h] at hf
    simp only [List.map_cons, List.map_nil, List.cons.injEq, Prod.mk.injEq, and_true] at hf
    obtain ⟨⟨n1, t1, o1⟩, ⟨n2, t2, o2⟩, ⟨n3, t3, o3⟩, n4, t4, o4⟩ := hf
    simp only [Op.eqFields, n1, n2, n3, n4, t1, t2, t3, t4, o1, o2, o3, o4]
    have e : decide (x = y) = (decide (x.machine = y.machine) && (decide (x.number = y.number) && (decide (x.card = y.card) && decide (x.ride = y.ride)))) := by
      cases x
      cases y
      simp
    rw [e]
    have hr := ride_equal_at w x.ride y.ride 9997
    simp [go_sem, hr]
    by_cases h1 : x.machine = y.machine
    · by_cases h2 : x.number = y.number
      · by_cases h3 : x.card = y.card
        · by_cases h4 : x.ride = y.ride
          · simp [h1, h2, h3, h4]
          · simp [h1, h2, h3, h4]
            intro a1 a2 a3 a4
            exact h4 (rd_ext a1 a2 a3 a4)
        · simp [h1, h2, h3]
      · simp [h1, h2]
    · simp [h1]
  | [] => rw [h] at hf; simp at hf
  | [f] => rw [h] at hf; simp at hf
  | [f, g] => rw [h] at hf; simp at hf
  | [f, g, k] => rw [h] at hf; simp at hf
  | f :: g :: k :: m :: n :: r => rw [h] at hf; simp at hf
theorem tap_neq (w : World) (r s : Tp) : (binOp .neq 91 (.agg #[.int .i64 r.machine, .int .i64 r.number, .int .i64 r.card, .int .i64 r.ride.day, .int .i64 r.ride.minute, .int .i64 r.ride.low, .int .i64 r.ride.high]) (.agg #[.int .i64 s.machine, .int .i64 s.number, .int .i64 s.card, .int .i64 s.ride.day, .int .i64 s.ride.minute, .int .i64 s.ride.low, .int .i64 s.ride.high])).run Try.prog w = .ok (.bool (!decide (r = s))) w := by
  simp only [binOp, Sem.run_bind, tap_equal, Result.andThen_ok, Sem.run_pure]
set_option maxRecDepth 100000 in
set_option maxHeartbeats 2000000 in
theorem tap_go (t : Tar) (a b c v : Value) (M U Cd : Int) (r : Rd) (cs : List Int) (w : World) (hv : NumsAt .i64 w v cs) (h4 : cs.length = 4) (hc : ∀ y ∈ cs, 0 ≤ y ∧ y ≤ 50) :
    Calls Try.prog 84 #[.agg #[.int .i64 t.zones, a, b, c, .int .i64 t.window], .agg #[.int .i64 M, .int .i64 U, .int .i64 Cd, .int .i64 r.day, .int .i64 r.minute, .int .i64 r.low, .int .i64 r.high], v] w (Gives w (.bool (inB M 0 3 && (inB Cd 0 9 && (inB U 0 (cntAt cs M - 1) && rideB t r))))) := by
  obtain ⟨A0, k0, rfl, hk, hm⟩ := hv.form
  cases h1 : inB M 0 3 with
  | false =>
    have H1 := Lib.hid h1
    clear h1
    go_enter Try.func84, Try.ntmps84
    go_wp2_with fail
    refine wp_name (fun W => Below w.heap.size w W ∧ W.heap[w.heap.size]? = some (.cells #[.int .i64 t.zones, a, b, c, .int .i64 t.window] 32 (0, 0)) ∧ W.heap[w.heap.size + 1]? = some (.cells #[.int .i64 M, .int .i64 U, .int .i64 Cd, .int .i64 r.day, .int .i64 r.minute, .int .i64 r.low, .int .i64 r.high] 91 (0, 0))) ⟨two_below w _ _, (Below.heap_alloc _ _ _ (by simp)).trans (heap_alloc_new w _), heap_alloc2_new w _ _⟩ (fun W hW => ?_)
    obtain ⟨hb, hA, hB⟩ := hW
    generalize w.heap.size + 1 = g1 at *
    have qa := box_cells hA
    have qb := box_cells hB
    have a0 := qa 0
    have a1 := qa 1
    have a2 := qa 2
    have a3 := qa 3
    have a4 := qa 4
    have b0 := qb 0
    have b1 := qb 1
    have b2 := qb 2
    have b3 := qb 3
    have b4 := qb 4
    have b5 := qb 5
    have b6 := qb 6
    simp only [List.getElem?_toArray, List.getElem?_cons_zero, List.getElem?_cons_succ] at a0 a1 a2 a3 a4 b0 b1 b2 b3 b4 b5 b6
    replace a0 := Later.cell a0
    replace a1 := Later.cell a1
    replace a2 := Later.cell a2
    replace a3 := Later.cell a3
    replace a4 := Later.cell a4
    replace b0 := Later.cell b0
    replace b1 := Later.cell b1
    replace b2 := Later.cell b2
    replace b3 := Later.cell b3
    replace b4 := Later.cell b4
    replace b5 := Later.cell b5
    replace b6 := Later.cell b6
    clear qa qb hA hB
    refine wp_region_later (by kernel_rfl) (by kernel_rfl) ?_
    repeat (change wpQuiet _ _ _ _ (_ :: _) _; go_big_quiet_step (fail))
    go_big_quiet_step ((go_at_call 48; exact Later.call (Same.gives (Same.to H1.out (within_same _ _ _ _)))))
    repeat (change wpQuiet _ _ _ _ (_ :: _) _; go_big_quiet_step (fail))
    refine wpQuiet_nil ?_
    intro w2 hL2
    have hb2 := Later.out hL2
    clear hL2 a0 a1 a2 a3 a4 b0 b1 b2 b3 b4 b5 b6
    go_wp2
    go_ret
    exact ⟨rfl, hb.trans (hb2.mono hb.size)⟩
  | true =>
    obtain ⟨m, hmm⟩ : ∃ m : Nat, M = (m : Int) := ⟨M.toNat, by have := inB_iff.1 h1; omega⟩
    subst hmm
    have hm3 : m < cs.length := by have := inB_iff.1 h1; omega
    obtain ⟨bb, o, y, rfl, hy, hcell, _⟩ := hv.at_ hm3
    have hcnt : cntAt cs (m : Int) = y := by unfold cntAt; simp [hy]
    have hyb := hc y (List.mem_of_getElem? hy)
    rw [hcnt]
    have H1 := Lib.hid h1
    have Hcell := Lib.hid hcell
    clear h1 hcnt hy hcell hv hc
    simp only [Bool.true_and]
    cases h2 : inB Cd 0 9 with
    | false =>
      have H2 := Lib.hid h2
      clear h2
      go_enter Try.func84, Try.ntmps84
      go_wp2_with fail
      refine wp_name (fun W => Below w.heap.size w W ∧ W.heap[w.heap.size]? = some (.cells #[.int .i64 t.zones, a, b, c, .int .i64 t.window] 32 (0, 0)) ∧ W.heap[w.heap.size + 1]? = some (.cells #[.int .i64 (m : Int), .int .i64 U, .int .i64 Cd, .int .i64 r.day, .int .i64 r.minute, .int .i64 r.low, .int .i64 r.high] 91 (0, 0))) ⟨two_below w _ _, (Below.heap_alloc _ _ _ (by simp)).trans (heap_alloc_new w _), heap_alloc2_new w _ _⟩ (fun W hW => ?_)
      obtain ⟨hb, hA, hB⟩ := hW
      generalize w.heap.size + 1 = g1 at *
      have qa := box_cells hA
      have qb := box_cells hB
      have a0 := qa 0
      have a1 := qa 1
      have a2 := qa 2
      have a3 := qa 3
      have a4 := qa 4
      have b0 := qb 0
      have b1 := qb 1
      have b2 := qb 2
      have b3 := qb 3
      have b4 := qb 4
      have b5 := qb 5
      have b6 := qb 6
      simp only [List.getElem?_toArray, List.getElem?_cons_zero, List.getElem?_cons_succ] at a0 a1 a2 a3 a4 b0 b1 b2 b3 b4 b5 b6
      replace a0 := Later.cell a0
      replace a1 := Later.cell a1
      replace a2 := Later.cell a2
      replace a3 := Later.cell a3
      replace a4 := Later.cell a4
      replace b0 := Later.cell b0
      replace b1 := Later.cell b1
      replace b2 := Later.cell b2
      replace b3 := Later.cell b3
      replace b4 := Later.cell b4
      replace b5 := Later.cell b5
      replace b6 := Later.cell b6
      clear qa qb hA hB
      refine wp_region_later (by kernel_rfl) (by kernel_rfl) ?_
      repeat (change wpQuiet _ _ _ _ (_ :: _) _; go_big_quiet_step (fail))
      go_big_quiet_step ((go_at_call 48; exact Later.call (Same.gives (Same.to H1.out (within_same _ _ _ _)))))
      repeat (change wpQuiet _ _ _ _ (_ :: _) _; go_big_quiet_step (fail))
      go_big_quiet_step ((go_at_call 48; exact Later.call (Same.gives (Same.to H2.out (within_same _ _ _ _)))))
      repeat (change wpQuiet _ _ _ _ (_ :: _) _; go_big_quiet_step (fail))
      refine wpQuiet_nil ?_
      intro w2 hL2
      have hb2 := Later.out hL2
      clear hL2 a0 a1 a2 a3 a4 b0 b1 b2 b3 b4 b5 b6
      go_wp2
      go_ret
      exact ⟨rfl, hb.trans (hb2.mono hb.size)⟩
    | true =>
      have H2 := Lib.hid h2
      clear h2
      simp only [Bool.true_and]
      obtain ⟨N, hN⟩ : ∃ N, cs.length = N := ⟨_, rfl⟩
      rw [hN] at h4 hk hm3 ⊢
      have i0 : (m : Int) < (N : Int) := by omega
      have i1 : ¬ (m : Int) < 0 := by omega
      have hw : IntKind.i64.wrap (y - 1) = y - 1 := IntWalk.i64_in _ (by omega)
      have hlN : (N : Int) ≤ 4 := by omega
      cases h3 : inB U 0 (y - 1) with
      | false =>
        have H3 := Lib.hid h3
        clear h3
        go_enter Try.func84, Try.ntmps84
        go_wp2_with fail
        refine wp_name (fun W => Below w.heap.size w W ∧ W.heap[w.heap.size]? = some (.cells #[.int .i64 t.zones, a, b, c, .int .i64 t.window] 32 (0, 0)) ∧ W.heap[w.heap.size + 1]? = some (.cells #[.int .i64 (m : Int), .int .i64 U, .int .i64 Cd, .int .i64 r.day, .int .i64 r.minute, .int .i64 r.low, .int .i64 r.high] 91 (0, 0))) ⟨two_below w _ _, (Below.heap_alloc _ _ _ (by simp)).trans (heap_alloc_new w _), heap_alloc2_new w _ _⟩ (fun W hW => ?_)
        obtain ⟨hb, hA, hB⟩ := hW
        generalize w.heap.size + 1 = g1 at *
        have qa := box_cells hA
        have qb := box_cells hB
        have a0 := qa 0
        have a1 := qa 1
        have a2 := qa 2
        have a3 := qa 3
        have a4 := qa 4
        have b0 := qb 0
        have b1 := qb 1
        have b2 := qb 2
        have b3 := qb 3
        have b4 := qb 4
        have b5 := qb 5
        have b6 := qb 6
        simp only [List.getElem?_toArray, List.getElem?_cons_zero, List.getElem?_cons_succ] at a0 a1 a2 a3 a4 b0 b1 b2 b3 b4 b5 b6
        replace a0 := Later.cell a0
        replace a1 := Later.cell a1
        replace a2 := Later.cell a2
        replace a3 := Later.cell a3
        replace a4 := Later.cell a4
        replace b0 := Later.cell b0
        replace b1 := Later.cell b1
        replace b2 := Later.cell b2
        replace b3 := Later.cell b3
        replace b4 := Later.cell b4
        replace b5 := Later.cell b5
        replace b6 := Later.cell b6
        have cm := Later.cell (cell_below hb Hcell.out)
        clear qa qb hA hB
        refine wp_region_later (by kernel_rfl) (by kernel_rfl) ?_
        repeat (change wpQuiet _ _ _ _ (_ :: _) _; go_big_quiet_step (fail))
        go_big_quiet_step ((go_at_call 48; exact Later.call (Same.gives (Same.to H1.out (within_same _ _ _ _)))))
        repeat (change wpQuiet _ _ _ _ (_ :: _) _; go_big_quiet_step (fail))
        go_big_quiet_step ((go_at_call 48; exact Later.call (Same.gives (Same.to H2.out (within_same _ _ _ _)))))
        repeat (change wpQuiet _ _ _ _ (_ :: _) _; go_big_quiet_step (fail))
        go_big_quiet_step ((go_at_call 48; exact Later.call (Same.gives (Same.to H3.out (within_same _ _ _ _)))))
        repeat (change wpQuiet _ _ _ _ (_ :: _) _; go_big_quiet_step (fail))
        refine wpQuiet_nil ?_
        intro w2 hL2
        have hb2 := Later.out hL2
        clear hL2 a0 a1 a2 a3 a4 b0 b1 b2 b3 b4 b5 b6 cm
        go_wp2
        go_ret
        exact ⟨rfl, hb.trans (hb2.mono hb.size)⟩
      | true =>
        have H3 := Lib.hid h3
        have Hr := Lib.hid (ride_any t a b c r)
        clear h3
        simp only [Bool.true_and]
        go_enter Try.func84, Try.ntmps84
        go_wp2_with fail
        refine wp_name (fun W => Below w.heap.size w W ∧ W.heap[w.heap.size]? = some (.cells #[.int .i64 t.zones, a, b, c, .int .i64 t.window] 32 (0, 0)) ∧ W.heap[w.heap.size + 1]? = some (.cells #[.int .i64 (m : Int), .int .i64 U, .int .i64 Cd, .int .i64 r.day, .int .i64 r.minute, .int .i64 r.low, .int .i64 r.high] 91 (0, 0))) ⟨two_below w _ _, (Below.heap_alloc _ _ _ (by simp)).trans (heap_alloc_new w _), heap_alloc2_new w _ _⟩ (fun W hW => ?_)
        obtain ⟨hb, hA, hB⟩ := hW
        generalize w.heap.size + 1 = g1 at *
        have qa := box_cells hA
        have qb := box_cells hB
        have a0 := qa 0
        have a1 := qa 1
        have a2 := qa 2
        have a3 := qa 3
        have a4 := qa 4
        have b0 := qb 0
        have b1 := qb 1
        have b2 := qb 2
        have b3 := qb 3
        have b4 := qb 4
        have b5 := qb 5
        have b6 := qb 6
        simp only [List.getElem?_toArray, List.getElem?_cons_zero, List.getElem?_cons_succ] at a0 a1 a2 a3 a4 b0 b1 b2 b3 b4 b5 b6
        replace a0 := Later.cell a0
        replace a1 := Later.cell a1
        replace a2 := Later.cell a2
        replace a3 := Later.cell a3
        replace a4 := Later.cell a4
        replace b0 := Later.cell b0
        replace b1 := Later.cell b1
        replace b2 := Later.cell b2
        replace b3 := Later.cell b3
        replace b4 := Later.cell b4
        replace b5 := Later.cell b5
        replace b6 := Later.cell b6
        have cm := Later.cell (cell_below hb Hcell.out)
        clear qa qb hA hB
        refine wp_region_later (by kernel_rfl) (by kernel_rfl) ?_
        repeat (change wpQuiet _ _ _ _ (_ :: _) _; go_big_quiet_step (fail))
        go_big_quiet_step ((go_at_call 48; exact Later.call (Same.gives (Same.to H1.out (within_same _ _ _ _)))))
        repeat (change wpQuiet _ _ _ _ (_ :: _) _; go_big_quiet_step (fail))
        go_big_quiet_step ((go_at_call 48; exact Later.call (Same.gives (Same.to H2.out (within_same _ _ _ _)))))
        repeat (change wpQuiet _ _ _ _ (_ :: _) _; go_big_quiet_step (fail))
        go_big_quiet_step ((go_at_call 48; exact Later.call (Same.gives (Same.to H3.out (within_same _ _ _ _)))))
        repeat (change wpQuiet _ _ _ _ (_ :: _) _; go_big_quiet_step (fail))
        go_big_quiet_step ((go_at_call 77; exact Later.call (Hr.out _)))
        repeat (change wpQuiet _ _ _ _ (_ :: _) _; go_big_quiet_step (fail))
        refine wpQuiet_nil ?_
        intro w2 hL2
        have hb2 := Later.out hL2
        clear hL2 a0 a1 a2 a3 a4 b0 b1 b2 b3 b4 b5 b6 cm
        go_wp2
        go_ret
        exact ⟨rfl, hb.trans (hb2.mono hb.size)⟩
theorem tap_any (t : Tar) (a b c v : Value) (x : Tp) (cs : List Int) (w : World) (hv : NumsAt .i64 w v cs) (h4 : cs.length = 4) (hc : ∀ y ∈ cs, 0 ≤ y ∧ y ≤ 50) :
    Calls Try.prog 84 #[.agg #[.int .i64 t.zones, a, b, c, .int .i64 t.window], .agg #[.int .i64 x.machine, .int .i64 x.number, .int .i64 x.card, .int .i64 x.ride.day, .int .i64 x.ride.minute, .int .i64 x.ride.low, .int .i64 x.ride.high], v] w (Gives w (.bool (tapB t cs x))) := tap_go t a b c v x.machine x.number x.card x.ride cs w hv h4 hc
set_option maxRecDepth 100000 in
theorem read1_any (n : Int) (w : World) : Calls Try.prog 82 #[.int .i64 n] w (Gives w (.bool (inB n 0 50))) := by
  go_enter Try.func82, Try.ntmps82
  go_wp2_with (go_at_call 48; refine (within_same _ _ _ _).mono ?_; rintro e w2 ⟨rfl, rfl⟩)
  go_ret
  exact ⟨rfl, Below.refl _ _⟩
theorem read1_val (n : Int) (w : World) : CallsVal Try.prog (.func (.func 82) #[] #[]) #[.int .i64 n] w (Gives w (.bool (inB n 0 50))) :=
  ⟨82, #[.int .i64 n], by kernel_rfl, read1_any n w⟩
end Go.Proofs.Ytmbkpfkkohpnkaa
