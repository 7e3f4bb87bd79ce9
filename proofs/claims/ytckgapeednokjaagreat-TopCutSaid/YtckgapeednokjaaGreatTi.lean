import Derived.Test.YtckgapeednokjaaGreatTh
set_option linter.unusedVariables false
set_option linter.unusedSimpArgs false
namespace Go.Proofs.YtckgapeednokjaaGreat
open Go Go.Proofs Go.RowKit

/-! ### run: ready, may -/
deriving instance DecidableEq for Trip
theorem trip_fields : (Tryz.prog.fieldsOf 112).toList.map (fun f => (f.name, f.type, f.offset)) = [("From", 3, 0), ("To", 3, 1), ("Start", 3, 2), ("Least", 3, 3), ("Most", 3, 4), ("Kind", 3, 5)] := by kernel_rfl
theorem trip_under : Tryz.prog.underlying 112 = some (.struct (Tryz.prog.fieldsOf 112)) := by kernel_rfl
theorem trip_held : Tryz.prog.stoodInHeld 112 = false := by kernel_rfl
theorem trip_guard (w : World) (x y : Operand) (xs ys : Array Value) : (eqGuard .eql 112 x y (.agg xs) (.agg ys)).run Tryz.prog w = .ok () w := run_eqGuard_agg w _ _ _ _ _ _ (by kernel_rfl)
theorem trip_guardN (w : World) (x y : Operand) (xs ys : Array Value) : (eqGuard .neq 112 x y (.agg xs) (.agg ys)).run Tryz.prog w = .ok () w := run_eqGuard_agg w _ _ _ _ _ _ (by kernel_rfl)
set_option maxRecDepth 100000 in
theorem trip_equal (w : World) (x y : Trip) : (Op.equal 112 (.agg #[.int .i64 x.fr, .int .i64 x.to, .int .i64 x.start, .int .i64 x.least, .int .i64 x.most, .int .i64 x.kind]) (.agg #[.int .i64 y.fr, .int .i64 y.to, .int .i64 y.start, .int .i64 y.least, .int .i64 y.most, .int .i64 y.kind])).run Tryz.prog w = .ok (decide (x = y)) w := by
  unfold Op.equal Op.maxDepth
  rw [run_equalIn_agg w 9999 _ _ _ trip_under trip_held]
  have hf := trip_fields
  match h : (Tryz.prog.fieldsOf 112).toList with
  | [f0, f1, f2, f3, f4, f5] =>
    rw [h] at hf
    simp only [List.map_cons, List.map_nil, List.cons.injEq, Prod.mk.injEq, and_true] at hf
    obtain ⟨⟨n0, t0, o0⟩, ⟨n1, t1, o1⟩, ⟨n2, t2, o2⟩, ⟨n3, t3, o3⟩, ⟨n4, t4, o4⟩, n5, t5, o5⟩ := hf
    simp only [Op.eqFields, n0, t0, o0, n1, t1, o1, n2, t2, o2, n3, t3, o3, n4, t4, o4, n5, t5, o5]
    have e : decide (x = y) = (decide (x.fr = y.fr) && (decide (x.to = y.to) && (decide (x.start = y.start) && (decide (x.least = y.least) && (decide (x.most = y.most) && (decide (x.kind = y.kind))))))) := by
      cases x
      cases y
      simp
    rw [e]
    simp [go_sem]
    by_cases h0 : x.fr = y.fr
    · by_cases h1 : x.to = y.to
      · by_cases h2 : x.start = y.start
        · by_cases h3 : x.least = y.least
          · by_cases h4 : x.most = y.most
            · by_cases h5 : x.kind = y.kind
              · simp [h0, h1, h2, h3, h4, h5]
              · simp [h0, h1, h2, h3, h4, h5]
            · simp [h0, h1, h2, h3, h4]
          · simp [h0, h1, h2, h3]
        · simp [h0, h1, h2]
      · simp [h0, h1]
    · simp [h0]
  | [] => rw [h] at hf; simp at hf
  | [f0] => rw [h] at hf; simp at hf
  | [f0, f1] => rw [h] at hf; simp at hf
  | [f0, f1, f2] => rw [h] at hf; simp at hf
  | [f0, f1, f2, f3] => rw [h] at hf; simp at hf
  | [f0, f1, f2, f3, f4] => rw [h] at hf; simp at hf
  | f0 :: f1 :: f2 :: f3 :: f4 :: f5 :: g :: r => rw [h] at hf; simp at hf
theorem trip_eql (w : World) (x y : Trip) : (binOp .eql 112 (.agg #[.int .i64 x.fr, .int .i64 x.to, .int .i64 x.start, .int .i64 x.least, .int .i64 x.most, .int .i64 x.kind]) (.agg #[.int .i64 y.fr, .int .i64 y.to, .int .i64 y.start, .int .i64 y.least, .int .i64 y.most, .int .i64 y.kind])).run Tryz.prog w = .ok (.bool (decide (x = y))) w := by
  simp only [binOp, Sem.run_bind, trip_equal, Result.andThen_ok, Sem.run_pure]
theorem trip_neq (w : World) (x y : Trip) : (binOp .neq 112 (.agg #[.int .i64 x.fr, .int .i64 x.to, .int .i64 x.start, .int .i64 x.least, .int .i64 x.most, .int .i64 x.kind]) (.agg #[.int .i64 y.fr, .int .i64 y.to, .int .i64 y.start, .int .i64 y.least, .int .i64 y.most, .int .i64 y.kind])).run Tryz.prog w = .ok (.bool (!decide (x = y))) w := by
  simp only [binOp, Sem.run_bind, trip_equal, Result.andThen_ok, Sem.run_pure]
theorem most_any (x : Trip) (w : World) : Calls Tryz.prog 222 #[.agg #[.int .i64 x.fr, .int .i64 x.to, .int .i64 x.start, .int .i64 x.least, .int .i64 x.most, .int .i64 x.kind]] w (Gives w (.int .i64 x.most)) := by
  have hb0 : Below w.heap.size w (w.alloc (.cells #[.int .i64 x.fr, .int .i64 x.to, .int .i64 x.start, .int .i64 x.least, .int .i64 x.most, .int .i64 x.kind] 112)) := (Below.refl _ _).alloc (Nat.le_refl _) _
  go_enter Tryz.func222, Tryz.ntmps222
  go_wp2
  go_ret
  exact ⟨rfl, hb0⟩
theorem most_val (x : Trip) (w : World) : CallsVal Tryz.prog (.func (.func 222) #[] #[]) #[.agg #[.int .i64 x.fr, .int .i64 x.to, .int .i64 x.start, .int .i64 x.least, .int .i64 x.most, .int .i64 x.kind]] w (Gives w (.int .i64 x.most)) :=
  ⟨222, #[.agg #[.int .i64 x.fr, .int .i64 x.to, .int .i64 x.start, .int .i64 x.least, .int .i64 x.most, .int .i64 x.kind]], by kernel_rfl, most_any x w⟩
set_option maxRecDepth 100000 in
set_option maxHeartbeats 1600000 in
theorem readyG_any (t : Tab) (u z : Value) (w : World) (hT : TabAt w u z t) (ht : TabOk t) (x : Trip) (place : Int) (hx : TripOk t.places x) (hpl : 0 ≤ place ∧ place ≤ t.places - 1) :
    Calls Tryz.prog 221 #[.agg #[.int .i64 t.places, .int .i64 t.lay, u, z], .agg #[.int .i64 x.fr, .int .i64 x.to, .int .i64 x.start, .int .i64 x.least, .int .i64 x.most, .int .i64 x.kind], .agg #[.func (.func 222) #[] #[]], .int .i64 place] w (Gives w (.int .i64 (readyT t x x.most place))) := by
  obtain ⟨A1, c1, rfl, _, _⟩ := hT.rows.form
  obtain ⟨A2, c2, rfl, _, _⟩ := hT.trips.form
  have HT := Lib.hid hT
  have Ht := Lib.hid ht
  have Hpl := Lib.hid hpl
  have Hx := Lib.hid hx
  have hR6 : t.empty.length ≤ 6 := by have := Ht.out.rows; have := Ht.out.places; omega
  have HR := Lib.hid Ht.out.rows
  have HM := Lib.hid (most_val x)
  clear hT ht hpl hx
  obtain ⟨q, hq⟩ : ∃ q : Nat, x.to = (q : Int) := ⟨x.to.toNat, by have := Hx.out.to; omega⟩
  obtain ⟨p, rfl⟩ : ∃ p : Nat, place = (p : Int) := ⟨place.toNat, by have := Hpl.out; omega⟩
  have hqR : q < t.empty.length := by have := Hx.out.to; have := HR.out; omega
  obtain ⟨y, hy⟩ : ∃ y, emptyAt t x.to (p : Int) = y := ⟨_, rfl⟩
  have Hy := Lib.hid hy
  have Hq := Lib.hid hq
  have hyb := Ht.out.empty_ Hx.out.to Hpl.out
  rw [hy] at hyb
  have hres : readyT t x x.most (p : Int) = x.start + x.most + t.lay + y := by unfold readyT; rw [hy]
  have Hres := Lib.hid hres
  have hst := Hx.out.start
  have hmo : 0 ≤ x.most ∧ x.most ≤ 600 := ⟨by have := Hx.out.least; omega, Hx.out.most⟩
  have hla := Ht.out.lay
  clear hy hq hres
  go_enter Tryz.func221, Tryz.ntmps221
  go_upto_region 1 with (fail)
  refine wp_name (fun W => Below w.heap.size w W ∧ W.heap[w.heap.size]? = some (.cells #[.int .i64 t.places, .int .i64 t.lay, .slice A1 t.empty.length c1, .slice A2 t.trips.length c2] 58 (0, 0)) ∧ W.heap[w.heap.size + 1]? = some (.cells #[.int .i64 x.fr, .int .i64 x.to, .int .i64 x.start, .int .i64 x.least, .int .i64 x.most, .int .i64 x.kind] 112 (0, 0)) ∧ W.heap[w.heap.size + 2]? = some (.cells #[.func (.func 222) #[] #[]] 299 (0, 0))) ?_ (fun w1 hW => ?_)
  · refine ⟨((Below.refl _ _).alloc (Nat.le_refl _) _).alloc (by simp) _ |>.alloc (by simp; omega) _, ?_, ?_, ?_⟩
    all_goals (simp only [World.heap_alloc_at, World.size_alloc]; repeat (first | rw [if_neg (by omega)] | rw [if_pos (by omega)]))
    all_goals rfl
  · obtain ⟨hw1, g1, h1, k1⟩ := hW
    have gc := box_cells g1
    have hc := box_cells h1
    have kc := box_cells k1
    have hq1 := hc 1
    simp only [List.getElem?_toArray, List.getElem?_cons_zero, List.getElem?_cons_succ] at hq1
    obtain ⟨b2, o2, l, u, eA, hl, c0, hn, _⟩ := (HT.out.rows.below hw1).at_ hqR
    subst eA
    obtain ⟨hll, _, hlx⟩ := Ht.out.row q l hl
    obtain ⟨A3, c3, rfl, _, _⟩ := hn.form
    have hpl : p < l.length := by have := Hpl.out; omega
    obtain ⟨b3, o3, y', eA, hy', c1', _⟩ := hn.at_ hpl
    subst eA
    have hyy : y' = y := by
      rw [← Hy.out]
      unfold emptyAt
      rw [Hq.out, Int.toNat_natCast, hl, Option.getD_some, Int.toNat_natCast, hy', Option.getD_some]
    subst hyy
    obtain ⟨M, hM⟩ : ∃ M, l.length = M := ⟨_, rfl⟩
    rw [hM] at c0 hpl
    have hM6 : M ≤ 6 := by have := HR.out; have := Ht.out.places; omega
    rw [Hq.out] at hq1
    have f0 := Later.cell (gc 1)
    have f1 := Later.cell (gc 2)
    have f2 := Later.cell (hc 0)
    have f3 := Later.cell hq1
    have f4 := Later.cell (hc 2)
    have f5 := Later.cell (hc 3)
    have f6 := Later.cell (hc 4)
    have f7 := Later.cell (hc 5)
    have f8 := Later.cell (kc 0)
    have f9 := Later.cell c0
    have f10 := Later.cell c1'
    clear hl hn hll hlx hy' hM gc hc kc hq1
    refine wp_region_later (by kernel_rfl) (by kernel_rfl) ?_
    repeat (go_big_quiet_step (fail))
    refine wpQuiet_callv (.tmp 12) [.tmp 13] #[112] rfl rfl (.func (.func 222) #[] #[]) rfl [.agg #[.int .i64 x.fr, .int .i64 (q : Int), .int .i64 x.start, .int .i64 x.least, .int .i64 x.most, .int .i64 x.kind]] rfl (.int .i64 x.most) (fun X => by rw [← Hq.out]; exact HM.out X.val) ?_
    simp only [Act.put, List.setIfInBounds_toArray, List.set_cons_succ, List.set_cons_zero]
    repeat (go_big_quiet_step (fail))
    refine wpQuiet_nil ?_
    intro w3 hx3
    have hb3 := Later.out hx3
    clear hx3 f0 f1 f2 f3 f4 f5 f6 f7 f8 f9 f10
    go_wp2
    go_ret
    exact gives_int Hres.out.symm (hw1.trans (hb3.mono hw1.size))
set_option maxRecDepth 100000 in
set_option maxHeartbeats 1600000 in
theorem mayG_any (t : Tab) (u z : Value) (w : World) (hT : TabAt w u z t) (ht : TabOk t) (x y : Trip) (hx : TripOk t.places x) (hy : TripOk t.places y) :
    Calls Tryz.prog 194 #[.agg #[.int .i64 t.places, .int .i64 t.lay, u, z], .agg #[.int .i64 x.fr, .int .i64 x.to, .int .i64 x.start, .int .i64 x.least, .int .i64 x.most, .int .i64 x.kind], .agg #[.int .i64 y.fr, .int .i64 y.to, .int .i64 y.start, .int .i64 y.least, .int .i64 y.most, .int .i64 y.kind]] w (Gives w (.bool (mayT t x y))) := by
  obtain ⟨A1, c1, rfl, _, _⟩ := hT.rows.form
  obtain ⟨A2, c2, rfl, _, _⟩ := hT.trips.form
  have Hrd := Lib.hid (fun (V : World) (h : Below w.heap.size w V) => readyG_any t _ _ V (hT.below h) ht x y.fr hx hy.fr)
  have hxx : x = y → mayT t x y = false := fun e => by
    subst e
    have h3 := ht.empty_ hx.to hx.fr
    have h4 := ht.lay
    have h5 := hx.least
    unfold mayT readyT
    rw [Bool.and_eq_false_iff]
    right
    rw [decide_eq_false_iff_not]
    omega
  have hres : mayT t x y = (decide (x.kind = y.kind) && decide (readyT t x x.most y.fr ≤ y.start)) := rfl
  obtain ⟨R, hR⟩ : ∃ R, readyT t x x.most y.fr = R := ⟨_, rfl⟩
  rw [hR] at Hrd hres
  have Hxx := Lib.hid hxx
  have Hres := Lib.hid hres
  have qe := fun w : World => trip_eql w x y
  have qg := fun (w : World) (a b : Operand) => trip_guard w a b #[.int .i64 x.fr, .int .i64 x.to, .int .i64 x.start, .int .i64 x.least, .int .i64 x.most, .int .i64 x.kind] #[.int .i64 y.fr, .int .i64 y.to, .int .i64 y.start, .int .i64 y.least, .int .i64 y.most, .int .i64 y.kind]
  clear hT ht hx hy hxx hres hR
  by_cases e : x = y
  · skip
    have q1 : decide (x = y) = true := by simp [e]
    have Hr := Lib.hid (Hxx.out e)
    clear e
    go_enter Tryz.func194, Tryz.ntmps194
    go_upto_region 1 with (fail)
    refine wp_name (fun W => Below w.heap.size w W ∧ W.heap[w.heap.size]? = some (.cells #[.int .i64 t.places, .int .i64 t.lay, .slice A1 t.empty.length c1, .slice A2 t.trips.length c2] 58 (0, 0)) ∧ W.heap[w.heap.size + 1]? = some (.cells #[.int .i64 x.fr, .int .i64 x.to, .int .i64 x.start, .int .i64 x.least, .int .i64 x.most, .int .i64 x.kind] 112 (0, 0)) ∧ W.heap[w.heap.size + 2]? = some (.cells #[.int .i64 y.fr, .int .i64 y.to, .int .i64 y.start, .int .i64 y.least, .int .i64 y.most, .int .i64 y.kind] 112 (0, 0))) ?_ (fun w1 hW => ?_)
    · refine ⟨((Below.refl _ _).alloc (Nat.le_refl _) _).alloc (by simp) _ |>.alloc (by simp; omega) _, ?_, ?_, ?_⟩
      all_goals (simp only [World.heap_alloc_at, World.size_alloc]; repeat (first | rw [if_neg (by omega)] | rw [if_pos (by omega)]))
      all_goals rfl
    obtain ⟨hw1, g1, h1, k1⟩ := hW
    have gc := box_cells g1
    have hc := box_cells h1
    have kc := box_cells k1
    go_wp2
    go_ret
    exact gives_bool Hr.out.symm hw1
  · skip
    have q1 : decide (x = y) = false := by simp [e]
    clear e
    by_cases e2 : x.kind = y.kind
    · skip
      have q2 : (x.kind != y.kind) = false := by simp [e2]
      have Hr := Lib.hid (show mayT t x y = decide (R ≤ y.start) by rw [Hres.out]; simp [e2])
      clear e2
      go_enter Tryz.func194, Tryz.ntmps194
      go_upto_region 1 with (fail)
      refine wp_name (fun W => Below w.heap.size w W ∧ W.heap[w.heap.size]? = some (.cells #[.int .i64 t.places, .int .i64 t.lay, .slice A1 t.empty.length c1, .slice A2 t.trips.length c2] 58 (0, 0)) ∧ W.heap[w.heap.size + 1]? = some (.cells #[.int .i64 x.fr, .int .i64 x.to, .int .i64 x.start, .int .i64 x.least, .int .i64 x.most, .int .i64 x.kind] 112 (0, 0)) ∧ W.heap[w.heap.size + 2]? = some (.cells #[.int .i64 y.fr, .int .i64 y.to, .int .i64 y.start, .int .i64 y.least, .int .i64 y.most, .int .i64 y.kind] 112 (0, 0))) ?_ (fun w1 hW => ?_)
      · refine ⟨((Below.refl _ _).alloc (Nat.le_refl _) _).alloc (by simp) _ |>.alloc (by simp; omega) _, ?_, ?_, ?_⟩
        all_goals (simp only [World.heap_alloc_at, World.size_alloc]; repeat (first | rw [if_neg (by omega)] | rw [if_pos (by omega)]))
        all_goals rfl
      obtain ⟨hw1, g1, h1, k1⟩ := hW
      have gc := box_cells g1
      have hc := box_cells h1
      have kc := box_cells k1
      go_upto_region 3 with (fail)
      have f0 := Later.cell (gc 0)
      have f1 := Later.cell (gc 1)
      have f2 := Later.cell (gc 2)
      have f3 := Later.cell (gc 3)
      have n0 := Later.cell (hc 0)
      have n1 := Later.cell (hc 1)
      have n2 := Later.cell (hc 2)
      have n3 := Later.cell (hc 3)
      have n4 := Later.cell (hc 4)
      have n5 := Later.cell (hc 5)
      have m0 := Later.cell (kc 0)
      have m2 := Later.cell (kc 2)
      clear gc hc kc
      refine wp_region_later (by kernel_rfl) (by kernel_rfl) ?_
      repeat (go_big_quiet_step ((go_at_call 221; exact Later.call (Hrd.out _ (hw1.trans ((Subtype.property _ : Below w1.heap.size w1 _).mono hw1.size))))))
      refine wpQuiet_nil ?_
      intro w3 hx3
      have hb3 := Later.out hx3
      clear hx3 f0 f1 f2 f3 n0 n1 n2 n3 n4 n5 m0 m2
      go_wp2
      go_ret
      exact gives_bool Hr.out.symm (hw1.trans (hb3.mono hw1.size))
    · skip
      have q2 : (x.kind != y.kind) = true := by simp [e2]
      have Hr := Lib.hid (show mayT t x y = false by rw [Hres.out]; simp [e2])
      clear e2
      go_enter Tryz.func194, Tryz.ntmps194
      go_upto_region 1 with (fail)
      refine wp_name (fun W => Below w.heap.size w W ∧ W.heap[w.heap.size]? = some (.cells #[.int .i64 t.places, .int .i64 t.lay, .slice A1 t.empty.length c1, .slice A2 t.trips.length c2] 58 (0, 0)) ∧ W.heap[w.heap.size + 1]? = some (.cells #[.int .i64 x.fr, .int .i64 x.to, .int .i64 x.start, .int .i64 x.least, .int .i64 x.most, .int .i64 x.kind] 112 (0, 0)) ∧ W.heap[w.heap.size + 2]? = some (.cells #[.int .i64 y.fr, .int .i64 y.to, .int .i64 y.start, .int .i64 y.least, .int .i64 y.most, .int .i64 y.kind] 112 (0, 0))) ?_ (fun w1 hW => ?_)
      · refine ⟨((Below.refl _ _).alloc (Nat.le_refl _) _).alloc (by simp) _ |>.alloc (by simp; omega) _, ?_, ?_, ?_⟩
        all_goals (simp only [World.heap_alloc_at, World.size_alloc]; repeat (first | rw [if_neg (by omega)] | rw [if_pos (by omega)]))
        all_goals rfl
      obtain ⟨hw1, g1, h1, k1⟩ := hW
      have gc := box_cells g1
      have hc := box_cells h1
      have kc := box_cells k1
      go_wp2
      go_ret
      exact gives_bool Hr.out.symm hw1
end Go.Proofs.YtckgapeednokjaaGreat
