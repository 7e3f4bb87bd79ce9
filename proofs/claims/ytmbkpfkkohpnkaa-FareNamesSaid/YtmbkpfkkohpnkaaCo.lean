import Derived.Test.YtmbkpfkkohpnkaaSr
import Derived.Outline
set_option linter.unusedVariables false
set_option linter.unusedSimpArgs false
set_option linter.unnecessarySimpa false
namespace Go.Proofs.Ytmbkpfkkohpnkaa
open Go Go.Proofs Go.RowKit

/-! ### Two rides compared -/
theorem ride_fields : (Try.prog.fieldsOf 70).toList.map (fun f => (f.name, f.type, f.offset)) = [("Day", 3, 0), ("Minute", 3, 1), ("Low", 3, 2), ("High", 3, 3)] := by kernel_rfl
theorem ride_under : Try.prog.underlying 70 = some (.struct (Try.prog.fieldsOf 70)) := by kernel_rfl
theorem ride_held : Try.prog.stoodInHeld 70 = false := by kernel_rfl
theorem ride_guard (w : World) (x y : Operand) (xs ys : Array Value) : (eqGuard .eql 70 x y (.agg xs) (.agg ys)).run Try.prog w = .ok () w := run_eqGuard_agg w _ _ _ _ _ _ (by kernel_rfl)
theorem ride_guardN (w : World) (x y : Operand) (xs ys : Array Value) : (eqGuard .neq 70 x y (.agg xs) (.agg ys)).run Try.prog w = .ok () w := run_eqGuard_agg w _ _ _ _ _ _ (by kernel_rfl)
theorem ride_equal (w : World) (r s : Rd) : (Op.equal 70 (.agg #[.int .i64 r.day, .int .i64 r.minute, .int .i64 r.low, .int .i64 r.high]) (.agg #[.int .i64 s.day, .int .i64 s.minute, .int .i64 s.low, .int .i64 s.high])).run Try.prog w = .ok (decide (r = s)) w := by
  unfold Op.equal Op.maxDepth
  rw [run_equalIn_agg w 9999 _ _ _ ride_under ride_held]
  have hf := ride_fields
  match h : (Try.prog.fieldsOf 70).toList with
  | [f, g, k, m] =>
    rw [h] at hf
    simp only [List.map_cons, List.map_nil, List.cons.injEq, Prod.mk.injEq, and_true] at hf
    obtain ⟨⟨n1, t1, o1⟩, ⟨n2, t2, o2⟩, ⟨n3, t3, o3⟩, n4, t4, o4⟩ := hf
    simp only [Op.eqFields, n1, n2, n3, n4, t1, t2, t3, t4, o1, o2, o3, o4]
    have e : decide (r = s) = (decide (r.day = s.day) && (decide (r.minute = s.minute) && (decide (r.low = s.low) && decide (r.high = s.high)))) := by
      cases r
      cases s
      simp
    rw [e]
    simp [go_sem]
    by_cases h1 : r.day = s.day
    · by_cases h2 : r.minute = s.minute
      · by_cases h3 : r.low = s.low
        · by_cases h4 : r.high = s.high
          · simp [h1, h2, h3, h4]
          · simp [h1, h2, h3, h4]
        · simp [h1, h2, h3]
      · simp [h1, h2]
    · simp [h1]
  | [] => rw [h] at hf; simp at hf
  | [f] => rw [h] at hf; simp at hf
  | [f, g] => rw [h] at hf; simp at hf
  | [f, g, k] => rw [h] at hf; simp at hf
  | f :: g :: k :: m :: n :: r => rw [h] at hf; simp at hf
theorem ride_eql (w : World) (r s : Rd) : (binOp .eql 70 (.agg #[.int .i64 r.day, .int .i64 r.minute, .int .i64 r.low, .int .i64 r.high]) (.agg #[.int .i64 s.day, .int .i64 s.minute, .int .i64 s.low, .int .i64 s.high])).run Try.prog w = .ok (.bool (decide (r = s))) w := by
  simp only [binOp, Sem.run_bind, ride_equal, Result.andThen_ok, Sem.run_pure]
theorem ride_neq (w : World) (r s : Rd) : (binOp .neq 70 (.agg #[.int .i64 r.day, .int .i64 r.minute, .int .i64 r.low, .int .i64 r.high]) (.agg #[.int .i64 s.day, .int .i64 s.minute, .int .i64 s.low, .int .i64 s.high])).run Try.prog w = .ok (.bool (!decide (r = s))) w := by
  simp only [binOp, Sem.run_bind, ride_equal, Result.andThen_ok, Sem.run_pure]

/-! ### What Compact keeps, plain -/
def keepB (l : List Rd) (j : Nat) : Bool := decide (j = 0) || decide (l[j]? ≠ l[j - 1]?)
def compL (l : List Rd) (k : Nat) : List Rd := (List.range k).filterMap fun j => if keepB l j then l[j]? else none
theorem compL_keep {l : List Rd} {k : Nat} {r : Rd} (hr : l[k]? = some r) (h : keepB l k = true) : compL l (k + 1) = compL l k ++ [r] := by
  unfold compL
  rw [List.range_succ, List.filterMap_append]
  simp [h, hr]
theorem compL_drop {l : List Rd} {k : Nat} (h : keepB l k = false) : compL l (k + 1) = compL l k := by
  unfold compL
  rw [List.range_succ, List.filterMap_append]
  simp [h]
theorem compL_le (l : List Rd) : ∀ k, (compL l k).length ≤ k
  | 0 => by simp [compL]
  | k + 1 => by
    have ih := compL_le l k
    cases h : keepB l k with
    | false => rw [compL_drop h]; omega
    | true =>
      cases hr : l[k]? with
      | none =>
        have : compL l (k + 1) = compL l k := by
          unfold compL
          rw [List.range_succ, List.filterMap_append]
          simp [h, hr]
        rw [this]; omega
      | some r => rw [compL_keep hr h]; simp; omega
theorem compL_all {l : List Rd} : ∀ {k : Nat}, k ≤ l.length → (∀ j, j < k → keepB l j = true) → compL l k = l.take k
  | 0, _, _ => by simp [compL]
  | k + 1, hk, h => by
    have hr : l[k]? = some l[k] := List.getElem?_eq_getElem (by omega)
    rw [compL_keep hr (h k (by omega)), compL_all (by omega) fun j hj => h j (by omega), List.take_succ_eq_append_getElem (by omega)]
theorem keep_zero (l : List Rd) : keepB l 0 = true := rfl
theorem keep_not {l : List Rd} {k : Nat} {r : Rd} (h0 : 1 ≤ k) (hr : l[k]? = some r) (hs : l[k - 1]? = some r) : keepB l k = false := by
  unfold keepB
  rw [hr, hs]
  simp
  omega
theorem keep_yes {l : List Rd} {k : Nat} {r s : Rd} (hr : l[k]? = some r) (hs : l[k - 1]? = some s) (h : r ≠ s) : keepB l k = true := by
  unfold keepB
  rw [hr, hs]
  simp [h]
theorem run_clear_struct {P : Program} (w : World) (t e ty : TypeId) (z u : Value) (m : Nat) (ht : P.underlying t = some (.slice e)) (hv : ∀ w, (zeroValue e).run P w = .ok z w) (hz : z.cells = (List.replicate m u).toArray) (h1 : u.oneCell' = true) (b o n c : Nat) (hn : 0 < n)
    (hc : ∀ j, j < n * m → (w.cell? ⟨b, o + j, none⟩).isSome = true) (hf : ∀ j, j < n * m → w.frozen? ⟨b, o + j, none⟩ = false) :
    (Builtin.clear_ #[t] ty #[.slice (some ⟨b, o, none⟩) n c]).run P w = .ok (.tuple #[]) (w.setCells b o (List.replicate (n * m) u)) := by
  have hzc : (Builtin.zeroCells z.cells n).toList = List.replicate (n * m) u := by
    rw [hz]
    simp only [Builtin.zeroCells, List.size_toArray, List.length_replicate, Array.toList_map, Array.toList_range]
    apply List.ext_getElem
    · simp
    · intro i h1 h2
      have hm : i % m < m := Nat.mod_lt _ (by
        rcases Nat.eq_zero_or_pos m with h | h
        · subst h; simp at h1
        · exact h)
      simp [hm]
  have hst := run_storeCells_cells (P := P) b o (List.replicate (n * m) u) 0 w (by simpa using hc) (by simpa using hf) (by intro v hv'; rw [List.eq_of_mem_replicate hv']; exact h1)
  simp only [Nat.add_zero] at hst
  obtain ⟨q, rfl⟩ : ∃ q, n = q + 1 := ⟨n - 1, by omega⟩
  simp [Builtin.clear_, run_underlying ht, hv, hzc, hst]
theorem RowF.cells {w : World} {g : Nat} {l : List Rd} (h : RowF w g l) {k : Nat} {r : Rd} (hr : l[k]? = some r) :
    w.cell? ⟨g, k * 4, none⟩ = some (.int .i64 r.day) ∧ w.cell? ⟨g, k * 4 + 1, none⟩ = some (.int .i64 r.minute) ∧ w.cell? ⟨g, k * 4 + 2, none⟩ = some (.int .i64 r.low) ∧ w.cell? ⟨g, k * 4 + 3, none⟩ = some (.int .i64 r.high) :=
  ⟨(h k 0 r _ hr rfl).1, (h k 1 r _ hr rfl).1, (h k 2 r _ hr rfl).1, (h k 3 r _ hr rfl).1⟩
theorem RowF.free {w : World} {g : Nat} {l : List Rd} (h : RowF w g l) {k : Nat} {r : Rd} (hr : l[k]? = some r) :
    w.frozen? ⟨g, k * 4, none⟩ = false ∧ w.frozen? ⟨g, k * 4 + 1, none⟩ = false ∧ w.frozen? ⟨g, k * 4 + 2, none⟩ = false ∧ w.frozen? ⟨g, k * 4 + 3, none⟩ = false :=
  ⟨(h k 0 r _ hr rfl).2, (h k 1 r _ hr rfl).2, (h k 2 r _ hr rfl).2, (h k 3 r _ hr rfl).2⟩
theorem set_oth {w : World} {g o o' : Nat} {v : Value} (h : o ≠ o') : (w.setCell ⟨g, o, none⟩ v).cell? ⟨g, o', none⟩ = w.cell? ⟨g, o', none⟩ := World.cell?_setCell_other _ _ _ _ (by simpa using h)
theorem set_same {w : World} {g o : Nat} {u v : Value} (h : w.cell? ⟨g, o, none⟩ = some u) : (w.setCell ⟨g, o, none⟩ v).cell? ⟨g, o, none⟩ = some v := World.cell?_setCell_same _ _ _ h
theorem RowF.store {w : World} {g : Nat} {l : List Rd} (h : RowF w g l) {n : Nat} {y : Rd} (hy : l[n]? = some y) (u : Rd) :
    RowF ((((w.setCell ⟨g, n * 4, none⟩ (.int .i64 u.day)).setCell ⟨g, n * 4 + 1, none⟩ (.int .i64 u.minute)).setCell ⟨g, n * 4 + 2, none⟩ (.int .i64 u.low)).setCell ⟨g, n * 4 + 3, none⟩ (.int .i64 u.high)) g (l.set n u) := by
  intro k j r x hr hx
  have hj : j < 4 := (List.getElem?_eq_some_iff.1 hx).1
  obtain ⟨d0, d1, d2, d3⟩ := h.cells hy
  by_cases e : n = k
  · subst e
    rw [List.getElem?_set_self (List.getElem?_eq_some_iff.1 hy).1] at hr
    cases hr
    obtain ⟨f0, f1, f2, f3⟩ := h.free hy
    refine ⟨?_, ?_⟩
    · match j, hj, hx with
      | 0, _, hx =>
        cases hx
        exact (set_oth (o := n * 4 + 3) (o' := n * 4) (by omega)).trans ((set_oth (o := n * 4 + 2) (o' := n * 4) (by omega)).trans ((set_oth (o := n * 4 + 1) (o' := n * 4) (by omega)).trans (set_same d0)))
      | 1, _, hx =>
        cases hx
        exact (set_oth (o := n * 4 + 3) (o' := n * 4 + 1) (by omega)).trans ((set_oth (o := n * 4 + 2) (o' := n * 4 + 1) (by omega)).trans (set_same ((set_oth (o := n * 4) (o' := n * 4 + 1) (by omega)).trans d1)))
      | 2, _, hx =>
        cases hx
        exact (set_oth (o := n * 4 + 3) (o' := n * 4 + 2) (by omega)).trans (set_same ((set_oth (o := n * 4 + 1) (o' := n * 4 + 2) (by omega)).trans ((set_oth (o := n * 4) (o' := n * 4 + 2) (by omega)).trans d2)))
      | 3, _, hx =>
        cases hx
        exact set_same ((set_oth (o := n * 4 + 2) (o' := n * 4 + 3) (by omega)).trans ((set_oth (o := n * 4 + 1) (o' := n * 4 + 3) (by omega)).trans ((set_oth (o := n * 4) (o' := n * 4 + 3) (by omega)).trans d3)))
    · simp only [World.frozen?_setCell]
      match j, hj with
      | 0, _ => exact f0
      | 1, _ => exact f1
      | 2, _ => exact f2
      | 3, _ => exact f3
  · rw [List.getElem?_set_ne e] at hr
    obtain ⟨hc, hf⟩ := h k j r x hr hx
    have hne : ∀ m, m < 4 → n * 4 + m ≠ k * 4 + j := fun m hm => by omega
    refine ⟨?_, by simpa only [World.frozen?_setCell] using hf⟩
    exact (set_oth (hne 3 (by omega))).trans ((set_oth (hne 2 (by omega))).trans ((set_oth (hne 1 (by omega))).trans ((set_oth (hne 0 (by omega))).trans hc)))
theorem grown_set {w w' : World} {g : Nat} (h : w.grownBy w' (some g)) (o : Nat) (u : Value) : w.grownBy (w'.setCell ⟨g, o, none⟩ u) (some g) :=
  ⟨h.os, h.tape, h.output, by simpa using h.size, fun k hk hne => by
    rw [heap_setCell_other _ _ _ _ (fun e => hne (by rw [e]))]
    exact h.block k hk hne⟩
theorem grown_drew {w w' : World} {g : Option Nat} (h : w.grownBy w' g) (n : Nat) : w.grownBy (w'.drewN n) g := ⟨h.os, h.tape, h.output, h.size, h.block⟩
theorem grown_setCells {w : World} {g : Nat} : ∀ (vs : List Value) (o : Nat) {w' : World}, w.grownBy w' (some g) → w.grownBy (w'.setCells g o vs) (some g)
  | [], o, _, h => h
  | v :: vs, o, _, h => grown_setCells vs (o + 1) (grown_set h o v)
set_option maxRecDepth 100000 in
set_option maxHeartbeats 1000000 in
theorem compact_any (g c : Nat) (l : List Rd) (w : World) (hrow : RowF w g l) (hne : l ≠ []) (hlen : l.length ≤ 1000000) (hc : l.length ≤ c) :
    Calls Try.prog 102 #[.slice (some ⟨g, 0, none⟩) l.length c] w fun e w' => e = .returned (.slice (some ⟨g, 0, none⟩) (compL l l.length).length c) ∧ w.grownBy w' (some g) ∧
      ∀ k r, (compL l l.length)[k]? = some r → w'.cell? ⟨g, k * 4, none⟩ = some (.int .i64 r.day) ∧ w'.cell? ⟨g, k * 4 + 1, none⟩ = some (.int .i64 r.minute) ∧ w'.cell? ⟨g, k * 4 + 2, none⟩ = some (.int .i64 r.low) ∧ w'.cell? ⟨g, k * 4 + 3, none⟩ = some (.int .i64 r.high) := by
  have Hrow := Lib.hid hrow
  clear hrow
  have hn : 0 < l.length := List.length_pos_iff.2 hne
  have done : ∀ q, (∀ j, j < l.length → keepB l j = true) → (compL l l.length).length = l.length ∧ w.grownBy (w.drewN q) (some g) ∧ ∀ k r, (compL l l.length)[k]? = some r → (w.drewN q).cell? ⟨g, k * 4, none⟩ = some (.int .i64 r.day) ∧ (w.drewN q).cell? ⟨g, k * 4 + 1, none⟩ = some (.int .i64 r.minute) ∧ (w.drewN q).cell? ⟨g, k * 4 + 2, none⟩ = some (.int .i64 r.low) ∧ (w.drewN q).cell? ⟨g, k * 4 + 3, none⟩ = some (.int .i64 r.high) := fun q h => by
    rw [compL_all (Nat.le_refl _) h, List.take_length]
    exact ⟨rfl, ⟨rfl, rfl, rfl, Nat.le_refl _, fun _ _ _ => rfl⟩, fun k r hr => Hrow.out.cells hr⟩
  have Done := Lib.hid done
  clear done
  have hc64 : l.length ≤ 9223372036854775807 := by omega
  by_cases h2 : l.length < 2
  · have h2I : (l.length : Int) < 2 := by omega
    go_enter Try.func102, Try.ntmps102
    go_wp2
    go_ret
    obtain ⟨e1, e2, e3⟩ := Done.out 0 (fun j hj => by cases (show j = 0 by omega); rfl)
    exact ⟨by rw [e1]; rfl, e2, e3⟩
  · have h2I : ¬ (l.length : Int) < 2 := by omega
    have qe := ride_eql
    have qg := ride_guard
    go_enter Try.func102, Try.ntmps102
    go_wp2
    go_loopw [3] (fun s3 wr => ∃ k q : Nat, 1 ≤ k ∧ k ≤ l.length ∧ s3 = .int .i64 k ∧ wr = w.drewN q ∧ ∀ j, j < k → keepB l j = true) (fun s3 wr => l.length - (intOf s3).toNat)
    case atStart => exact ⟨1, 0, Nat.le_refl _, by omega, rfl, rfl, fun j hj => by cases (show j = 0 by omega); rfl⟩
    case round =>
      obtain ⟨k, q, hk1, hk, rfl, rfl, hall⟩ := hrel
      have Hall := Lib.hid hall
      clear hall
      by_cases hlt : k < l.length
      · obtain ⟨x, hx⟩ : ∃ x, l[k]? = some x := ⟨_, List.getElem?_eq_getElem hlt⟩
        obtain ⟨y, hy⟩ : ∃ y, l[k - 1]? = some y := ⟨_, List.getElem?_eq_getElem (by omega)⟩
        obtain ⟨j, hj⟩ : ∃ j, k = j + 1 := ⟨k - 1, by omega⟩
        have c0 := Hrow.out.cells hx
        have c1 := Hrow.out.cells hy
        rw [show k - 1 = j by omega] at c1
        obtain ⟨a0, a1, a2, a3⟩ := c0
        obtain ⟨b0, b1, b2, b3⟩ := c1
        have q1 : IntKind.i64.wrap ((k : Int) - 1) = (j : Int) := by rw [IntWalk.i64_in _ (by omega)]; omega
        have i0 : (k : Int) < (l.length : Int) := by omega
        have i1 : (j : Int) < (l.length : Int) := by omega
        have Hx := Lib.hid hx
        have Hy := Lib.hid hy
        have Hj := Lib.hid hj
        clear hx hy hj
        cases hd : decide (x = y) with
        | false =>
          have Hd := Lib.hid hd
          go_wp2
          go_quiet (fail)
          go_wp2
          go_roundw
          case rel =>
            refine ⟨k + 1, _, by omega, by omega, by go_num, rfl, fun i hi => ?_⟩
            by_cases e : i = k
            · subst e
              exact keep_yes Hx.out Hy.out (by simpa using Hd.out)
            · exact Hall.out i (by omega)
          case measure => simp [intOf]; omega
        | true =>
          have Hd := Lib.hid hd
          go_wp2
          go_quiet (fail)
          go_wp2
          have hnot : keepB l k = false := keep_not hk1 Hx.out (by rw [Hy.out]; exact congrArg some (of_decide_eq_true Hd.out).symm)
          have hk0 : compL l (k + 1) = l.take k := by rw [compL_drop hnot, compL_all hk Hall.out]
          have Hk0 := Lib.hid hk0
          have hrow0 : RowF (w.drewN (q + nq)) g l := Hrow.out
          have hg0 : w.grownBy (w.drewN (q + nq)) (some g) := ⟨rfl, rfl, rfl, Nat.le_refl _, fun _ _ _ => rfl⟩
          clear hnot hk0 hd a0 a1 a2 a3 b0 b1 b2 b3 q1 i0 i1 qe qg
          have qe := ride_neq
          have qg := ride_guardN
          generalize w.drewN (q + nq) = w1 at hrow0 hg0 ⊢
          have Hrow0 := Lib.hid hrow0
          clear hrow0
          go_loopw [3, 5] (fun s3 s5 wr => ∃ (kk k2 : Nat) (dk : List Rd), s3 = .int .i64 kk ∧ s5 = .int .i64 k2 ∧ 1 ≤ k2 ∧ k + k2 ≤ l.length ∧ kk = (compL l (k + k2)).length ∧ kk < k + k2 ∧ w.grownBy wr (some g) ∧ RowF wr g dk ∧ dk.length = l.length ∧
            (∀ (i : Nat) (r : Rd), (compL l (k + k2))[i]? = some r → dk[i]? = some r) ∧ ∀ i : Nat, kk ≤ i → dk[i]? = l[i]?) (fun s3 s5 wr => l.length - k - (intOf s5).toNat)
          case atStart =>
            refine ⟨k, 1, l, rfl, rfl, Nat.le_refl _, by omega, by rw [Hk0.out]; simp; omega, by omega, hg0, Hrow0.out, rfl, fun i r hi => ?_, fun _ _ => rfl⟩
            rw [Hk0.out, List.getElem?_take] at hi
            split at hi
            · exact hi
            · cases hi
          case round =>
            obtain ⟨kk, k2, dk, rfl, rfl, h1, hle, hkk, hkl, hgr, hrw, hdl, hlow, hhigh⟩ := hrel
            obtain ⟨wo, rfl⟩ : ∃ wo : World, wo = wr := ⟨_, rfl⟩
            have Hkk := Lib.hid hkk
            have Hgr := Lib.hid hgr
            have Hrw := Lib.hid hrw
            have Hlow := Lib.hid hlow
            have Hhigh := Lib.hid hhigh
            clear hkk hgr hrw hlow hhigh
            by_cases hlt2 : k + k2 < l.length
            · obtain ⟨u, hu⟩ : ∃ u, l[k + k2]? = some u := ⟨_, List.getElem?_eq_getElem hlt2⟩
              obtain ⟨m, hm⟩ : ∃ m, k2 = m + 1 := ⟨k2 - 1, by omega⟩
              obtain ⟨v, hv⟩ : ∃ v, l[k + m]? = some v := ⟨_, List.getElem?_eq_getElem (by omega)⟩
              obtain ⟨y', hy'⟩ : ∃ y, dk[kk]? = some y := ⟨_, List.getElem?_eq_getElem (by omega)⟩
              obtain ⟨a0, a1, a2, a3⟩ := Hrw.out.cells (k := k + k2) (r := u) (by rw [Hhigh.out _ (by omega)]; exact hu)
              obtain ⟨b0, b1, b2, b3⟩ := Hrw.out.cells (k := k + m) (r := v) (by rw [Hhigh.out _ (by omega)]; exact hv)
              obtain ⟨d0, d1, d2, d3⟩ := Hrw.out.cells hy'
              obtain ⟨f0, f1, f2, f3⟩ := Hrw.out.free hy'
              rw [Nat.add_mul] at a0 a1 a2 a3 b0 b1 b2 b3
              have q1 : IntKind.i64.wrap ((k2 : Int) - 1) = (m : Int) := by rw [IntWalk.i64_in _ (by omega)]; omega
              have i0 : (k2 : Int) < ((l.length - k : Nat) : Int) := by omega
              have i1 : (m : Int) < ((l.length - k : Nat) : Int) := by omega
              have i2 : (kk : Int) < (l.length : Int) := by omega
              have Hu := Lib.hid hu
              have Hv := Lib.hid hv
              have Hm := Lib.hid hm
              clear hu hv hm hy'
              cases hd : decide (u = v) with
              | true =>
                have Hd := Lib.hid hd
                go_wp2
                go_quiet (fail)
                go_wp2
                go_roundw
                case rel =>
                  have hm := Hm.out
                  have hno : keepB l (k + k2) = false := keep_not (by omega) Hu.out (by rw [show k + k2 - 1 = k + m by omega, Hv.out]; exact congrArg some (of_decide_eq_true Hd.out).symm)
                  have hcd := compL_drop hno
                  refine ⟨kk, k2 + 1, dk, rfl, by go_num, by omega, by omega, ?_, by omega, grown_drew Hgr.out _, Hrw.out, hdl, ?_, Hhigh.out⟩
                  · rw [← Nat.add_assoc, hcd]; exact Hkk.out
                  · rw [← Nat.add_assoc, hcd]; exact Hlow.out
                case measure => simp [intOf]; omega
              | false =>
                have Hd := Lib.hid hd
                go_wp2
                go_quiet (fail)
                go_wp2
                go_roundw
                case rel =>
                  have hm := Hm.out
                  have hkk := Hkk.out
                  have hyes : keepB l (k + k2) = true := keep_yes Hu.out (by rw [show k + k2 - 1 = k + m by omega]; exact Hv.out) (of_decide_eq_false Hd.out)
                  have hcd := compL_keep Hu.out hyes
                  have hrow2 : RowF (wo.drewN nq) g dk := Hrw.out
                  have hst := hrow2.store (n := kk) (List.getElem?_eq_getElem (by omega)) u
                  refine ⟨kk + 1, k2 + 1, dk.set kk u, by go_num, by go_num, by omega, by omega, ?_, by omega, grown_set (grown_set (grown_set (grown_set (grown_drew Hgr.out _) _ _) _ _) _ _) _ _, hst, by simpa using hdl, fun i r hi => ?_, fun i hi => ?_⟩
                  · rw [← Nat.add_assoc, hcd]; simp [← hkk]
                  · rw [← Nat.add_assoc, hcd] at hi
                    rcases Nat.lt_trichotomy i kk with h | h | h
                    · rw [List.getElem?_append_left (by omega)] at hi
                      rw [List.getElem?_set_ne (by omega)]
                      exact Hlow.out i r hi
                    · subst h
                      rw [List.getElem?_append_right (by omega)] at hi
                      simp only [← hkk, Nat.sub_self, List.getElem?_cons_zero] at hi
                      rw [List.getElem?_set_self (by omega)]
                      exact hi
                    · rw [List.getElem?_append_right (by omega)] at hi
                      have := (List.getElem?_eq_some_iff.1 hi).1
                      simp at this
                      omega
                  · rw [List.getElem?_set_ne (by omega)]
                    exact Hhigh.out i (by omega)
                case measure => simp [intOf]; omega
            · have hend : k + k2 = l.length := by omega
              have Hend := Lib.hid hend
              have hkk := Hkk.out
              have hkn : kk < l.length := by omega
              have hcl : ∀ ty, (Builtin.clear_ #[37] ty #[.slice (some ⟨g, kk * 4, none⟩) (l.length - kk) (c - kk)]).run Try.prog wo = .ok (.tuple #[]) (wo.setCells g (kk * 4) (List.replicate ((l.length - kk) * 4) (.int .i64 0))) :=
                fun ty => run_clear_struct wo _ _ ty (.agg #[.int .i64 0, .int .i64 0, .int .i64 0, .int .i64 0]) (.int .i64 0) 4 Try.underlying37 (fun w => by kernel_rfl) rfl rfl g (kk * 4) (l.length - kk) (c - kk) (by omega) (fun j hj => by
                  obtain ⟨r, hr⟩ : ∃ r, dk[kk + j / 4]? = some r := ⟨_, List.getElem?_eq_getElem (by omega)⟩
                  have hq : j % 4 < 4 := Nat.mod_lt _ (by omega)
                  have h1 := (Hrw.out (kk + j / 4) (j % 4) r _ hr (List.getElem?_eq_getElem (l := rdC r) hq)).1
                  rw [show (kk + j / 4) * 4 + j % 4 = kk * 4 + j by omega] at h1
                  rw [h1]
                  rfl) (fun j hj => by
                  obtain ⟨r, hr⟩ : ∃ r, dk[kk + j / 4]? = some r := ⟨_, List.getElem?_eq_getElem (by omega)⟩
                  have hq : j % 4 < 4 := Nat.mod_lt _ (by omega)
                  have h1 := (Hrw.out (kk + j / 4) (j % 4) r _ hr (List.getElem?_eq_getElem (l := rdC r) hq)).2
                  rwa [show (kk + j / 4) * 4 + j % 4 = kk * 4 + j by omega] at h1)
              have hck : ¬ c = kk := by omega
              have HK2 := Lib.hid hkk
              have HK3 := Lib.hid hend
              have hi0 : ¬ (k2 : Int) < ((l.length - k : Nat) : Int) := by omega
              clear hkk hend
              go_wp2
              go_ret
              have hkk := HK2.out
              rw [Hend.out] at hkk
              refine ⟨by rw [← hkk]; rfl, grown_setCells _ _ Hgr.out, fun i r hi => ?_⟩
              have hik : i < kk := by have := (List.getElem?_eq_some_iff.1 hi).1; omega
              have hd := Hlow.out i r (by rw [Hend.out]; exact hi)
              have h4 := Hrw.out.cells hd
              have ho : ∀ m, m < 4 → (wo.setCells g (kk * 4) (List.replicate ((l.length - kk) * 4) (.int .i64 0))).cell? ⟨g, i * 4 + m, none⟩ = wo.cell? ⟨g, i * 4 + m, none⟩ := fun m hm => World.cell?_setCells_out g _ _ _ _ (fun _ _ => Or.inl (by simp only; omega))
              exact ⟨(ho 0 (by omega)).trans h4.1, (ho 1 (by omega)).trans h4.2.1, (ho 2 (by omega)).trans h4.2.2.1, (ho 3 (by omega)).trans h4.2.2.2⟩
      · obtain rfl : k = l.length := by omega
        go_wp2
        go_ret
        obtain ⟨e1, e2, e3⟩ := Done.out q Hall.out
        exact ⟨by rw [e1]; rfl, e2, e3⟩
end Go.Proofs.Ytmbkpfkkohpnkaa
