import Derived.Test.YtmbkpfkkohpnkaaI1
import Derived.Test.YtmbkpfkkohpnkaaPr
set_option linter.unusedVariables false
set_option linter.unusedSimpArgs false
namespace Go.Proofs.Ytmbkpfkkohpnkaa
open Go Go.Proofs Go.RowKit Go.Shelf

attribute [local go_sem] Oper.semAt_some
theorem step_append_src {P : Program} (w : World) {ops : Array Oper} {o : Oper} {a : Act} {K : Act → World → Prop} {Q : Exit → Act → World → Prop} {E : Prop} (hgd : o.guard = none) (s x : Operand) (t : TypeId)
    (ho : o.op = .call { callee := .builtin .append, args := #[s, x], argTypes := #[t, t] })
    (base : Nat) (e : TypeId) (i : TypeInfo) (z : Value) (size bytes : Nat) (ht : P.underlying t = some (.slice e)) (hi : P.info? e = some i) (hz : i.zero = some z)
    (hsize : i.size = size) (hby : i.bytes = bytes) (hzs : z.cells.size = size) (hsz : 0 < size)
    (v : Value) (n : Nat) (xs : List Value) (hs : a.eval s = v) (hown : w.ownsRow base e size v n xs)
    (A : Option Addr) (m c : Nat) (news : List Value) (hx : a.eval x = .slice A m c) (hr : Src w A m size news) (h1 : ∀ u ∈ news, u.oneCell' = true)
    (h63 : n + m ≤ maxLen) (hbytes : (n + m) * bytes ≤ 140737488355328) (hbase : base ≤ w.heap.size)
    (h : ∀ A' c' w', w'.ownsRow base e size (.slice A' (n + m) c') (n + m) (xs ++ news) → w.grownBy w' v.ownBlock → ((Value.slice A' (n + m) c').ownBlock = v.ownBlock ∨ (Value.slice A' (n + m) c').ownBlock = some w.heap.size) → K (a.put o.dst (.slice A' (n + m) c')) w') :
    if Region.wanted o (yielded ops a.tmps) = true then Oper.wp P o a w K Q else E := by
  have hw : Region.wanted o (yielded ops a.tmps) = true := by simp [Region.wanted, hgd]
  rw [if_pos hw]
  refine wp_append_src w s x t ho base e i z size bytes ht hi hz hsize hby hzs hsz v n xs hs hown A m c news hx hr h1 h63 hbytes hbase fun v' w' h2 h3 h4 => ?_
  obtain ⟨A', c', rfl⟩ := own_form h2
  exact h A' c' w' h2 h3 h4
theorem wpListIn_append_src {P : Program} (w : World) {n l : Nat} {ops : Array Oper} {rest : List Oper} {o : Oper} {a : Act} {Q : Exit → Act → World → Prop} (hgd : o.guard = none) (s x : Operand) (t : TypeId)
    (ho : o.op = .call { callee := .builtin .append, args := #[s, x], argTypes := #[t, t] })
    (base : Nat) (e : TypeId) (i : TypeInfo) (z : Value) (size bytes : Nat) (ht : P.underlying t = some (.slice e)) (hi : P.info? e = some i) (hz : i.zero = some z)
    (hsize : i.size = size) (hby : i.bytes = bytes) (hzs : z.cells.size = size) (hsz : 0 < size)
    (v : Value) (k : Nat) (xs : List Value) (hs : a.eval s = v) (hown : w.ownsRow base e size v k xs)
    (A : Option Addr) (m c : Nat) (news : List Value) (hx : a.eval x = .slice A m c) (hr : Src w A m size news) (h1 : ∀ u ∈ news, u.oneCell' = true)
    (h63 : k + m ≤ maxLen) (hbytes : (k + m) * bytes ≤ 140737488355328) (hbase : base ≤ w.heap.size)
    (h : ∀ A' c' w', w'.ownsRow base e size (.slice A' (k + m) c') (k + m) (xs ++ news) → w.grownBy w' v.ownBlock → ((Value.slice A' (k + m) c').ownBlock = v.ownBlock ∨ (Value.slice A' (k + m) c').ownBlock = some w.heap.size) →
      wpListIn (Fence.wide.inRound l) n P ops Q rest (a.put o.dst (.slice A' (k + m) c')) w') : wpListIn (Fence.wide.inRound l) n P ops Q (o :: rest) a w := by
  refine wpListIn_plain hgd fun K hK => Oper.wp_inRound (by simp [noDefer, ho]) ?_
  refine wp_append_src w s x t ho base e i z size bytes ht hi hz hsize hby hzs hsz v k xs hs hown A m c news hx hr h1 h63 hbytes hbase fun v' w' h2 h3 h4 => ?_
  obtain ⟨A', c', rfl⟩ := own_form h2
  exact hK _ _ (h A' c' w' h2 h3 h4)

/-! ### Worlds that differ in some blocks -/
structure Chg (R : Nat → Prop) (W W' : World) : Prop where
  os : W'.os = W.os
  tape : W'.tape = W.tape
  output : W'.output = W.output
  size : W.heap.size ≤ W'.heap.size
  block : ∀ k, k < W.heap.size → ¬ R k → W'.heap[k]? = W.heap[k]?
  others : ∀ (k : Nat) (o : Obj), W.heap[k]? = some o → o.isCells = false → W'.heap[k]? = some o
section
variable {R : Nat → Prop} {A B C : World}
theorem Chg.refl (R : Nat → Prop) (W : World) : Chg R W W := ⟨rfl, rfl, rfl, Nat.le_refl _, fun _ _ _ => rfl, fun _ _ h _ => h⟩
theorem Chg.trans (h : Chg R A B) (k : Chg R B C) : Chg R A C :=
  ⟨k.os.trans h.os, k.tape.trans h.tape, k.output.trans h.output, Nat.le_trans h.size k.size, fun i hi hr => (k.block i (Nat.lt_of_lt_of_le hi h.size) hr).trans (h.block i hi hr), fun i o hi ho => k.others i o (h.others i o hi ho) ho⟩
theorem Chg.of_below (h : Below A.heap.size A B) : Chg R A B := ⟨h.os, h.tape, h.output, h.size, fun k hk _ => h.block k hk, fun k o hk _ => (h.block k (Array.getElem?_eq_some_iff.1 hk).1).trans hk⟩
theorem Chg.set (W : World) {p : Addr} (hp : R p.block) (u : Value) : Chg R W (W.setCell p u) :=
  ⟨rfl, rfl, rfl, by simp [World.setCell], fun k _ hr => Below.heap_setCell W p u k (fun e => hr (e ▸ hp)), fun k o hk ho => (KeepsOthers.setCell W p u).same k o hk ho⟩
theorem Chg.cell (h : Chg R A B) {p : Addr} {v : Value} (hp : ¬ R p.block) (hc : A.cell? p = some v) : B.cell? p = some v := by
  rw [← hc]
  exact World.cell?_of_block (h.block _ (World.block_lt_of_cell? _ _ hc) hp)
theorem Chg.keep {X : Nat → Prop} (h : Chg R A B) (hX : ∀ k, X k → k < A.heap.size ∧ ¬ R k) : Keep X A B := fun k hk => h.block k (hX k hk).1 (hX k hk).2
theorem Chg.below {n : Nat} {W : World} (hb : Below n W A) (h : Chg R A B) (hn : n ≤ A.heap.size) (hR : ∀ k, R k → n ≤ k) : Below n W B :=
  hb.trans ⟨h.os, h.tape, h.output, h.size, fun k hk => h.block k (Nat.lt_of_lt_of_le hk hn) (fun hr => by have := hR k hr; omega)⟩
theorem Chg.keepsOthers (h : Chg R A B) : KeepsOthers A B := ⟨h.size, h.others⟩
theorem Chg.grown {base : Nat} {e : TypeId} {size n : Nat} {v : Value} {xs : List Value} (hown : A.ownsRow base e size v n xs) (hg : A.grownBy B v.ownBlock) (hR : ∀ k, base ≤ k → R k) : Chg R A B := by
  refine ⟨hg.os, hg.tape, hg.output, hg.size, fun k hk hr => hg.block k hk (fun e => hr (hR k (hown.lt k e.symm).1)), fun k o hk ho => ?_⟩
  refine (hg.block k (Array.getElem?_eq_some_iff.1 hk).1 (fun e => ?_)).trans hk
  rcases hown.2 with ⟨rfl, _⟩ | ⟨g, cap, cur, rfl, _, hgc, _⟩
  · simp [Value.ownBlock] at e
  · simp only [Value.ownBlock, Option.some.injEq] at e
    subst e
    rw [hgc] at hk
    cases hk
    simp [Obj.isCells] at ho
end
/-! ### The ranges, numbered -/
theorem wider_len (t : Tar) (lo hi : Int) : (widerL t lo hi).length = (lo + 1).toNat * (t.zones - hi).toNat := by
  unfold widerL
  generalize (lo + 1).toNat = n
  induction n with
  | zero => simp
  | succ n ih =>
    rw [List.range_succ, List.flatMap_append, List.length_append, ih, Nat.succ_mul]
    simp
theorem wider_at {t : Tar} {lo hi : Int} {a q : Nat} (ha : a < (lo + 1).toNat) (hq : q < (t.zones - hi).toNat) : (widerL t lo hi)[a * (t.zones - hi).toNat + q]? = some ((a : Int), hi + (q : Int)) := by
  unfold widerL
  generalize (lo + 1).toNat = n at *
  generalize (t.zones - hi).toNat = m at *
  induction n with
  | zero => omega
  | succ n ih =>
    have hl : ((List.range n).flatMap fun (a : Nat) => (List.range m).map fun (k : Nat) => ((a : Int), hi + (k : Int))).length = n * m := by
      clear ih ha
      induction n with
      | zero => simp
      | succ n ih => rw [List.range_succ, List.flatMap_append, List.length_append, ih, Nat.succ_mul]; simp
    rw [List.range_succ, List.flatMap_append]
    by_cases h : a = n
    · subst h
      rw [List.getElem?_append_right (by rw [hl]; omega), hl, Nat.add_sub_cancel_left]
      simp [hq]
    · have h1 : a * m + q < n * m := by
        have : (a + 1) * m ≤ n * m := Nat.mul_le_mul_right m (by omega)
        rw [Nat.succ_mul] at this
        omega
      rw [List.getElem?_append_left (by rw [hl]; exact h1)]
      exact ih (by omega)
def prE (ps : List (Int × Int)) (x : { j : Nat // j < ps.length }) : Array Value := #[.int .i64 ps[x.1].1, .int .i64 ps[x.1].2]
/-- The captured variables of wider. -/
structure WideIn (X : Nat → Prop) (w : World) (L H T : Nat) (t : Tar) (lo hi : Int) : Prop where
  xl : X L
  xh : X H
  xt : X T
  l0 : w.cell? ⟨L, 0, none⟩ = some (.int .i64 lo)
  h0 : w.cell? ⟨H, 0, none⟩ = some (.int .i64 hi)
  t0 : w.cell? ⟨T, 0, none⟩ = some (.int .i64 t.zones)
theorem WideIn.kept {X : Nat → Prop} {w w' : World} {L H T : Nat} {t : Tar} {lo hi : Int} (h : WideIn X w L H T t lo hi) (k : Keep X w w') : WideIn X w' L H T t lo hi :=
  ⟨h.xl, h.xh, h.xt, k.cell h.xl h.l0, k.cell h.xh h.h0, k.cell h.xt h.t0⟩
set_option maxRecDepth 100000 in
set_option maxHeartbeats 2000000 in
theorem wider1_in (n : Nat) (hn : 1 ≤ n) (id L H T : Nat) (X : Nat → Prop) (t : Tar) (lo hi : Int) (hlo : 0 ≤ lo ∧ lo ≤ 1000) (hhi : 0 ≤ hi ∧ hi ≤ t.zones ∧ t.zones ≤ 1000) (ps : List (Int × Int)) (hps : ps = widerL t lo hi)
    (J Jx : List { j : Nat // j < ps.length } → World → Prop) (W : World) (hXW : ∀ k, X k → k < W.heap.size)
    (hJ : AbidesFrom W.heap.size J) (hY : ∀ pre x W1, J pre W1 → pre.length < ps.length → YieldAt Fence.wide (n - 1) Try.prog id (prE ps x) W1 fun e W' =>
      (e = .returned (.bool true) ∧ J (pre ++ [x]) W' ∧ Keep X W1 W') ∨ (e = .returned (.bool false) ∧ Jx (pre ++ [x]) W'))
    (hL : WideIn X W L H T t lo hi) (hst : J [] W) :
    CallsIn Fence.wide n Try.prog 105 #[.func (.yield id) #[] #[], .pointer (some ⟨L, 0, none⟩), .pointer (some ⟨H, 0, none⟩), .pointer (some ⟨T, 0, none⟩)] W fun e W' => (∃ v, e = .returned v) ∧
      ((∃ ys, ys = ups ps.length ps.length ∧ J ys W') ∨ (∃ pre, True ∧ Jx pre W')) := by
  obtain ⟨A, hA⟩ : ∃ A : Nat, (lo + 1).toNat = A := ⟨_, rfl⟩
  obtain ⟨m, hm⟩ : ∃ m : Nat, (t.zones - hi).toNat = m := ⟨_, rfl⟩
  have hlen : ps.length = A * m := by rw [hps, wider_len, hA, hm]
  have hat : ∀ a q, a < A → q < m → ∃ h : a * m + q < ps.length, ps[a * m + q] = ((a : Int), hi + (q : Int)) := fun a q ha hq => by
    have h := wider_at (t := t) (lo := lo) (hi := hi) (a := a) (q := q) (by omega) (by omega)
    rw [hm, ← hps] at h
    exact ⟨(List.getElem?_eq_some_iff.1 h).1, (List.getElem?_eq_some_iff.1 h).2⟩
  have Hat := Lib.hid hat
  have Hlen := Lib.hid hlen
  have eA : (A : Int) = lo + 1 := by omega
  have em : (m : Int) = t.zones - hi := by omega
  clear hps hat hA hm
  refine callsIn_of_wp Try.func105 rfl trivial ?_ rfl
  simp only [Try.ntmps105, List.size_toArray, List.length_cons, List.length_nil, Nat.reduceAdd, Nat.reduceSub, Array.replicate_succ, Array.replicate_zero, List.push_toArray, List.append_toArray, List.nil_append, List.cons_append]
  have g0 := hL.l0
  have q1 : IntKind.i64.wrap (lo + 1) = (A : Int) := by rw [IntWalk.i64_in _ (by omega)]; omega
  gi_wp2
  clear g0
  gi_loopw [9] (fun i wr => ∃ k : Nat, k ≤ A ∧ i = .int .i64 k ∧ J (ups ps.length (k * m)) wr ∧ Keep X W wr)
    (fun i _ => A - (intOf i).toNat)
  case atStart => exact ⟨0, Nat.zero_le _, rfl, by rw [Nat.zero_mul]; exact hst, Keep.refl _ _⟩
  case round =>
    obtain ⟨k, hk, rfl, hJs, hnx⟩ := hrel
    by_cases hlt : k < A
    · have hLr := hL.kept hnx
      have g1 := hLr.h0
      have g2 := hLr.t0
      have i0 : (k : Int) < lo + 1 := by omega
      gi_wp2
      clear g1 g2
      gi_loopw [6] (fun i wr => ∃ q : Nat, q ≤ m ∧ i = .int .i64 (hi + (q : Int)) ∧ J (ups ps.length (k * m + q)) wr ∧ Keep X W wr)
        (fun i _ => m - ((intOf i) - hi).toNat)
      case atStart => exact ⟨0, Nat.zero_le _, by simp, hJs, hnx⟩
      case round =>
        obtain ⟨q, hq, rfl, hJq, hnq⟩ := hrel
        have hXr : ∀ j, X j → j < wr.heap.size := fun j hj => hnq.lt hj (hXW j hj)
        have g2 := (hL.kept hnq).t0
        by_cases hqm : q < m
        · obtain ⟨hj, hpj⟩ := Hat.out k q hlt hqm
          have i1 : hi + (q : Int) < t.zones := by omega
          have q2 : IntKind.i64.wrap (hi + (q : Int) + 1) = hi + ((q + 1 : Nat) : Int) := by rw [IntWalk.i64_in _ (by omega)]; omega
          have hin := fun W2 hJ2 => hY (ups ps.length (k * m + q)) ⟨k * m + q, hj⟩ W2 hJ2 (by rw [ups_length (by omega)]; exact hj)
          simp only [prE, hpj] at hin
          obtain ⟨fn, tmps, assign, body, hy, hR⟩ := hin wr hJq
          have Hlt := Lib.hid hj
          clear hin hpj
          gi_wp2
          refine hR.mono ?_
          rintro e W3 (⟨rfl, hJ3, hk3⟩ | ⟨rfl, hJx3⟩)
          · gi_wp2
            go_roundw
            case rel => exact ⟨q + 1, hqm, by go_num, by rw [← Nat.add_assoc, ups_succ Hlt.out]; exact hJ3, hnq.trans hk3⟩
            case measure => simp [intOf]; omega
          · gi_wp2
            refine bodyPost_ret (results_none rfl _ _ _) rfl ?_
            exact ⟨⟨_, rfl⟩, .inr ⟨_, trivial, hJx3⟩⟩
        · obtain rfl : q = m := by omega
          have i1 : ¬ hi + (q : Int) < t.zones := by omega
          gi_wp2
          go_roundw
          case rel =>
            have h := hJq
            rw [← Nat.succ_mul] at h
            exact ⟨k + 1, hlt, by go_num, h, hnq⟩
          case measure => simp [intOf]; omega
    · obtain rfl : k = A := by omega
      have i0 : ¬ (k : Int) < lo + 1 := by omega
      gi_wp2
      go_end0
      exact ⟨⟨_, rfl⟩, .inl hJs⟩
theorem wider_stops (n : Nat) (hn : 1 ≤ n) (L H T : Nat) (X : Nat → Prop) (t : Tar) (lo hi : Int) (hlo : 0 ≤ lo ∧ lo ≤ 1000) (hhi : 0 ≤ hi ∧ hi ≤ t.zones ∧ t.zones ≤ 1000) (ps : List (Int × Int)) (hps : ps = widerL t lo hi) (w : World) (hXw : ∀ k, X k → k < w.heap.size) (hL : WideIn X w L H T t lo hi) :
    SeqStopsK Fence.wide n Try.prog 105 #[.pointer (some ⟨L, 0, none⟩), .pointer (some ⟨H, 0, none⟩), .pointer (some ⟨T, 0, none⟩)] (prE ps) (Keep X) (fun ys => ys = ups ps.length ps.length) (fun _ => True) ps.length w := fun id J Jx W hW hJ _ hY hst =>
  wider1_in n hn id L H T X t lo hi hlo hhi ps hps J Jx W (fun k hk => Nat.lt_of_lt_of_le (hXw k hk) hW.size) hJ hY (hL.kept (Keep.below hXw hW)) hst
/-- wider hands back the iterator, and lays three boxes. -/
theorem wider_any (t : Tar) (a b c : Value) (lo hi : Int) (w : World) : Calls Try.prog 86 #[.agg #[.int .i64 t.zones, a, b, c, .int .i64 t.window], .int .i64 lo, .int .i64 hi] w fun e w' => ∃ L H T : Nat, ((L < w'.heap.size ∧ H < w'.heap.size ∧ T < w'.heap.size) ∧ w.heap.size ≤ L ∧ w.heap.size ≤ H ∧ w.heap.size ≤ T) ∧
    e = .returned (.func (.func 105) #[] #[.pointer (some ⟨L, 0, none⟩), .pointer (some ⟨H, 0, none⟩), .pointer (some ⟨T, 0, none⟩)]) ∧
    w'.cell? ⟨L, 0, none⟩ = some (.int .i64 lo) ∧ w'.cell? ⟨H, 0, none⟩ = some (.int .i64 hi) ∧ w'.cell? ⟨T, 0, none⟩ = some (.int .i64 t.zones) ∧ Below w.heap.size w w' := by
  go_enter Try.func86, Try.ntmps86
  go_wp2
  go_ret
  exact ⟨w.heap.size + 1, w.heap.size + 1 + 1, w.heap.size, ⟨⟨by simp, by simp, by simp; omega⟩, by omega, by omega, by omega⟩, rfl, by simp [go_sem], by simp [go_sem], by simp [go_sem], (((Below.refl _ _).alloc (Nat.le_refl _) _).alloc (by simp) _).alloc (by simp; omega) _⟩
end Go.Proofs.Ytmbkpfkkohpnkaa
