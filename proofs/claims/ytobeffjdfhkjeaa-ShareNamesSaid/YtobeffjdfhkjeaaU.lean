import Derived.Test.YtobeffjdfhkjeaaPB
set_option linter.unusedVariables false
set_option linter.unusedSimpArgs false
namespace Go.Proofs.Ytobeffjdfhkjeaa
open Go Go.Proofs Go.RowKit Go.Shelf

attribute [local go_sem] Oper.semAt_some

theorem wpListIn_make_full {F : Fence} {n : Nat} {P : Program} (w : World) {ops : Array Oper} {rest : List Oper} {o : Oper} {a : Act} {Q : Exit → Act → World → Prop}
    (hg : o.guard = none) (l c : Operand) (t : TypeId) (hop : o.op = Op.makeSlice t l c)
    (base : Nat) (e : TypeId) (i : TypeInfo) (z : Value) (size : Nat) (h1 : P.underlying t = some (.slice e)) (h2 : P.info? e = some i) (h3 : i.zero = some z) (h4 : i.size = size)
    (kl kc : IntKind) (L C : Int) (m : Nat) (hl : a.eval l = .int kl L) (hc : a.eval c = .int kc C) (hL : L = (m : Int)) (hC : C = (m : Int)) (b2 : i.bytes * m ≤ 281474976710656) (b3 : m ≤ maxLen) (b4 : base ≤ w.heap.size)
    (hK : ∀ w', w'.ownsRow base e size (.slice (some ⟨w.heap.size, 0, none⟩) m m) m (madeCells z.cells (m * size)).toList → w.grownBy w' none → wpListIn F n P ops Q rest (a.put o.dst (.slice (some ⟨w.heap.size, 0, none⟩) m m)) w') :
    wpListIn F n P ops Q (o :: rest) a w := by
  refine wpListIn_plain hg fun K hK' => ?_
  obtain ⟨w', hrun, r1, r2⟩ := run_make_full (P := P) w base t e i z size h1 h2 h3 h4 kl kc m b2 b3 b4
  subst hL
  subst hC
  unfold Oper.wpIn
  refine ⟨?_, ?_⟩
  · simp [Oper.about, hop]
  · rw [Oper.semAt_plain F _ _ (by rw [hop]; intro c hc'; cases hc')]
    simp [execOp, hop, hl, hc, hrun, Result.andThen]
    exact hK' _ _ (hK w' r1 r2)

theorem info52 : (Try.prog.info? 52).map (fun i => (i.zero, i.size, i.bytes)) = some (some (.agg #[.int .i64 0, .int .i64 0]), 2, 16) := by kernel_rfl

/-- A block of pairs that reads as f. -/
def OutAt (W : World) (g : Nat) (f : Nat → Int × Int) (m : Nat) : Prop :=
  ∃ cur, W.heap[g]? = some (.cells cur 52 (0, 0)) ∧ cur.size = m * 2 ∧ ∀ c, c < m → cur[c * 2]? = some (.int .i64 (f c).1) ∧ cur[c * 2 + 1]? = some (.int .i64 (f c).2)

section
variable {W : World} {g m : Nat} {f : Nat → Int × Int}
theorem OutAt.c0 (h : OutAt W g f m) {c : Nat} (hc : c < m) : W.cell? ⟨g, c * 2, none⟩ = some (.int .i64 (f c).1) := by
  obtain ⟨cur, h1, h2, h3⟩ := h
  simp [World.cell?, h1, (h3 c hc).1]
theorem OutAt.c1 (h : OutAt W g f m) {c : Nat} (hc : c < m) : W.cell? ⟨g, c * 2 + 1, none⟩ = some (.int .i64 (f c).2) := by
  obtain ⟨cur, h1, h2, h3⟩ := h
  simp [World.cell?, h1, (h3 c hc).2]
theorem OutAt.frozen (h : OutAt W g f m) (o : Nat) : W.frozen? ⟨g, o, none⟩ = false := by
  obtain ⟨cur, h1, h2, h3⟩ := h
  simp [World.frozen?, h1]
theorem OutAt.lt (h : OutAt W g f m) : g < W.heap.size := by
  obtain ⟨cur, h1, h2, h3⟩ := h
  exact (Array.getElem?_eq_some_iff.1 h1).1
theorem OutAt.kept {W' : World} (h : OutAt W g f m) (hk : W'.heap[g]? = W.heap[g]?) : OutAt W' g f m := by
  obtain ⟨cur, h1, h2, h3⟩ := h
  exact ⟨cur, hk.trans h1, h2, h3⟩
theorem OutAt.congr {f' : Nat → Int × Int} (h : OutAt W g f m) (hf : ∀ c, c < m → f' c = f c) : OutAt W g f' m := by
  obtain ⟨cur, h1, h2, h3⟩ := h
  exact ⟨cur, h1, h2, fun c hc => by rw [hf c hc]; exact h3 c hc⟩
theorem OutAt.set (h : OutAt W g f m) {c : Nat} (hc : c < m) (x y : Int) :
    OutAt ((W.setCell ⟨g, c * 2, none⟩ (.int .i64 x)).setCell ⟨g, c * 2 + 1, none⟩ (.int .i64 y)) g (fun j => if j = c then (x, y) else f j) m := by
  obtain ⟨cur, h1, h2, h3⟩ := h
  obtain ⟨hlt, hk⟩ := Array.getElem?_eq_some_iff.1 h1
  have e1 : (W.setCell ⟨g, c * 2, none⟩ (.int .i64 x)).heap[g]? = some (.cells (cur.setIfInBounds (c * 2) (.int .i64 x)) 52 (0, 0)) := by
    show (W.heap.modify g _)[g]? = _
    rw [Array.getElem?_eq_getElem (by rw [Array.size_modify]; exact hlt), Array.getElem_modify_self, hk]
    simp
  have e2 : ((W.setCell ⟨g, c * 2, none⟩ (.int .i64 x)).setCell ⟨g, c * 2 + 1, none⟩ (.int .i64 y)).heap[g]? = some (.cells ((cur.setIfInBounds (c * 2) (.int .i64 x)).setIfInBounds (c * 2 + 1) (.int .i64 y)) 52 (0, 0)) := by
    obtain ⟨hlt', hk'⟩ := Array.getElem?_eq_some_iff.1 e1
    show ((W.setCell ⟨g, c * 2, none⟩ (.int .i64 x)).heap.modify g _)[g]? = _
    rw [Array.getElem?_eq_getElem (by rw [Array.size_modify]; exact hlt'), Array.getElem_modify_self, hk']
    simp
  refine ⟨_, e2, by simp [h2], fun j hj => ?_⟩
  obtain ⟨a1, a2⟩ := h3 j hj
  by_cases hjc : j = c
  · subst hjc
    simp only [if_true]
    constructor
    · rw [Array.getElem?_setIfInBounds_ne (by omega)]
      simp [Array.getElem?_setIfInBounds, h2]; omega
    · simp [Array.getElem?_setIfInBounds, h2]; omega
  · simp only [if_neg hjc]
    constructor
    · rw [Array.getElem?_setIfInBounds_ne (by omega), Array.getElem?_setIfInBounds_ne (by omega)]; exact a1
    · rw [Array.getElem?_setIfInBounds_ne (by omega), Array.getElem?_setIfInBounds_ne (by omega)]; exact a2
theorem outAt_made {base : Nat} (h : W.ownsRow base 52 2 (.slice (some ⟨g, 0, none⟩) m m) m (madeCells (Value.agg #[.int .i64 0, .int .i64 0]).cells (m * 2)).toList) : OutAt W g (fun _ => (0, 0)) m := by
  obtain ⟨h0, h | ⟨g', cap, cur, e, h2, h3, h4, h5, h6, h7⟩⟩ := h
  · cases h.1
  · cases e
    refine ⟨cur, h3, h6, fun c hc => ?_⟩
    have hcur : cur = madeCells (Value.agg #[.int .i64 0, .int .i64 0]).cells (m * 2) := by
      rw [List.take_of_length_le (by simp [h6])] at h7
      exact Array.toList_inj.1 h7
    subst hcur
    have hz : (Value.agg #[.int .i64 0, .int .i64 0]).cells = #[.int .i64 0, .int .i64 0] := by simp [Value.cells]
    constructor
    · simp [madeCells, hz]
      exact ⟨c * 2, by rw [Array.getElem?_range, if_pos (by omega)], by rw [show c * 2 % 2 = 0 by omega]; rfl⟩
    · simp [madeCells, hz]
      exact ⟨c * 2 + 1, by rw [Array.getElem?_range, if_pos (by omega)], by rw [show (c * 2 + 1) % 2 = 1 by omega]; rfl⟩
end
theorem heap_setCell_other (W : World) (g o : Nat) (v : Value) {k : Nat} (h : k ≠ g) : (W.setCell ⟨g, o, none⟩ v).heap[k]? = W.heap[k]? := by
  show (W.heap.modify g _)[k]? = _
  rw [Array.getElem?_modify, if_neg (fun e => h e.symm)]
theorem Keep.setCell {X : Nat → Prop} {A B : World} (h : Keep X A B) {g : Nat} (hg : ¬ X g) (o : Nat) (v : Value) : Keep X A (B.setCell ⟨g, o, none⟩ v) :=
  fun k hk => (heap_setCell_other B g o v (fun e => hg (e ▸ hk))).trans (h k hk)
theorem nums_two {W : World} {b : Nat} {x y : Int} (h0 : W.cell? ⟨b, 0, none⟩ = some (.int .i64 x)) (h1 : W.cell? ⟨b, 1, none⟩ = some (.int .i64 y)) : NumsAt .i64 W (.slice (some ⟨b, 0, none⟩) 2 2) [x, y] := by
  refine ⟨_, 2, rfl, by simp, by simp [maxLen], fun _ => ⟨b, 0, rfl, fun k hk => ?_⟩⟩
  match k, hk with
  | 0, _ => simpa using h0
  | 1, _ => simpa using h1
theorem sumOk_two {x y : Int} (hx : 0 ≤ x ∧ x ≤ 1000000000000000) (hy : 0 ≤ y ∧ y ≤ 1000000000000000) : SumOk [x, y] := by
  intro k hk
  match k, hk with
  | 0, _ => simp [sumL]
  | 1, _ => simp [sumL]; omega
  | 2, _ => simp [sumL]; omega

theorem wpSeqP_name {P : Program} {ops : Array Oper} {Q : Exit → Act → World → Prop} {S : World → Prop} {kp : Nat → Bool} {l : List (Nat × Oper)} {a : Act} {w : World} (F : World → Prop) (hF : F w) (h : ∀ W, F W → wpSeqP P ops Q S kp l a W) : wpSeqP P ops Q S kp l a w := h w hF

theorem sum_two {W : World} {b : Nat} {x y : Int} (h0 : W.cell? ⟨b, 0, none⟩ = some (.int .i64 x)) (h1 : W.cell? ⟨b, 1, none⟩ = some (.int .i64 y)) (hx : 0 ≤ x ∧ x ≤ 1000000000000000) (hy : 0 ≤ y ∧ y ≤ 1000000000000000) :
    Calls Try.prog 59 #[.slice (some ⟨b, 0, none⟩) 2 2] W (Same W (.int .i64 (x + y))) := by
  have := sum_same _ [x, y] W (nums_two h0 h1) (sumOk_two hx hy)
  simpa [sumL] using this

/-- The marks that the loops over an iterator have left behind. -/
def marks (ds : List Nat) : List Deferred := ds.map fun D => { target := .collected D, args := #[] }

/-- Marks whose blocks lie open. -/
def OpenMarks (n₀ : Nat) (W : World) (ds : List Nat) : Prop := ds.Nodup ∧ ∀ d ∈ ds, n₀ ≤ d ∧ W.heap[d]? = some (.deferred (some []))

theorem OpenMarks.keeps {n₀ : Nat} {W W' : World} {ds : List Nat} (h : OpenMarks n₀ W ds) (k : KeepsOthers W W') : OpenMarks n₀ W' ds :=
  ⟨h.1, fun d hd => ⟨(h.2 d hd).1, k.same d _ (h.2 d hd).2 rfl⟩⟩

theorem OutAt.own {B g m : Nat} {β : Type} (f : β → Nat → Int × Int) : Own (fun (s : β) W => OutAt W g (f s) m) := fun s W W' row h hg hr => by
  obtain ⟨cur, h1, h2, h3⟩ := h
  refine ⟨cur, (hg.block g (Array.getElem?_eq_some_iff.1 h1).1 (fun e => ?_)).trans h1, h2, h3⟩
  obtain ⟨o, ho, hc⟩ := hr g e.symm
  rw [h1] at ho
  cases ho
  cases hc

theorem OpenMarks.own {β : Type} {B n₀ : Nat} {ds : List Nat} (hB : ∀ d ∈ ds, d < B) : OwnFrom B (fun (_ : β) W => OpenMarks n₀ W ds) := fun s W W' row h hg hr =>
  ⟨h.1, fun d hd => ⟨(h.2 d hd).1, (hg.block d (Array.getElem?_eq_some_iff.1 (h.2 d hd).2).1 (fun e => by have := (hr d e.symm).1; have := hB d hd; omega)).trans (h.2 d hd).2⟩⟩

theorem size_own {β : Type} {B n₀ : Nat} : OwnFrom B (fun (_ : β) W => n₀ ≤ W.heap.size) := fun s W W' row h hg hr => Nat.le_trans h hg.size

theorem leaves_marks {F : Fence} {n : Nat} {P : Program} {fn : Func} {tmps : Array Value} {R : Ending → World → Prop} (n₀ : Nat) : ∀ (ds : List Nat) (W : World), OpenMarks n₀ W ds →
    (∀ W', Below n₀ W W' → (∀ (k : Nat) (o : Obj), W.heap[k]? = some o → o.isCells = true → W'.heap[k]? = some o) → ∃ v, (results fn tmps).run P W' = .ok v W' ∧ R (.returned v) W') →
    LeavesInM F n P fn tmps R (marks ds) .returning W
  | [], W, _, h => h W (Below.refl _ _) (fun _ _ hk _ => hk)
  | d :: ds, W, ho, h => by
    obtain ⟨hnd, ha⟩ := ho
    obtain ⟨hd0, hd⟩ := ha d (by simp)
    simp only [List.nodup_cons] at hnd
    refine ⟨by simp, .inl ⟨d, _, rfl, run_takeDeferred hd, ?_⟩⟩
    have hb : Below n₀ W (W.putObj d (.deferred none)) := ⟨rfl, rfl, rfl, by simp [World.putObj], fun k hk => World.putObj_heap_other (by omega)⟩
    refine leaves_marks n₀ ds _ ⟨hnd.2, fun x hx => ⟨(ha x (by simp [hx])).1, ?_⟩⟩ (fun W' hb' hk' => h W' (hb.trans hb') (fun k o hk hc => hk' k o ?_ hc))
    · rw [World.putObj_heap_other (fun e => hnd.1 (by rw [← e]; exact hx))]
      exact (ha x (by simp [hx])).2
    · rw [World.putObj_heap_other (fun e => by subst e; rw [hd] at hk; cases hk; simp [Obj.isCells] at hc)]
      exact hk

theorem Bounds_fault (n : Int) (v : Value) (ss : List Strat) (w : World) (hv : StrataAt w v ss) (hf : (faultI n ss != 0) = true) :
    Calls Try.prog 27 #[.agg #[.int .i64 n, v]] w (Gives w (.tuple #[.slice none 0 0, .int .i64 (faultI n ss)])) := by
  have hb0 : Below w.heap.size w (w.alloc (.cells #[.int .i64 n, v] 33)) := (Below.refl _ _).alloc (Nat.le_refl _) _
  obtain ⟨A, c, rfl, hc, hm⟩ := hv.form
  go_enter Try.func27, Try.ntmps27
  go_wp2_with (go_at_call 19; refine (checkPool_any _ _ ss _ (hv.below hb0)).mono ?_; rintro e w1 ⟨rfl, hb1⟩)
  go_ret2
  exact ⟨rfl, hb0.trans (hb1.mono hb0.size)⟩

def GivesPairs (w : World) (f : Nat → Int × Int) (m : Nat) (e : Ending) (w' : World) : Prop :=
  ∃ g, e = .returned (.tuple #[.slice (some ⟨g, 0, none⟩) m m, .int .i64 0]) ∧ w.heap.size ≤ g ∧ OutAt w' g f m ∧ Below w.heap.size w w'

set_option maxRecDepth 100000 in
set_option maxHeartbeats 2000000 in
theorem Bounds_ok (m : Nat) (v : Value) (ss : List Strat) (w : World) (hv : StrataAt w v ss) (hf : faultI m ss = 0) :
    Calls Try.prog 27 #[.agg #[.int .i64 m, v]] w (GivesPairs w (fun c => boundK ss c ss.length) m) := by
  have hb0 : Below w.heap.size w (w.alloc (.cells #[.int .i64 m, v] 33)) := (Below.refl _ _).alloc (Nat.le_refl _) _
  obtain ⟨A, c, rfl, hc, hm⟩ := hv.form
  have hf0 : (faultI m ss != 0) = false := by simp [hf]
  obtain ⟨i0, hi0, hz0, hz1, hz2⟩ := info_parts info52
  obtain ⟨hs8, hn1, hn5, hval⟩ := fault_zero hf
  have hm5 : m ≤ 5 := by omega
  refine (callsIn_wide (n := 3)).1 ?_
  refine callsIn_of_wp_marks Try.func27 rfl trivial ?_
  simp only [Try.ntmps27, List.size_toArray, List.length_cons, List.length_nil, Nat.reduceAdd, Nat.reduceSub, Array.replicate_succ, Array.replicate_zero, List.push_toArray, List.append_toArray, List.nil_append, List.cons_append]
  gi_wp2_with (first
    | (refine ⟨trivial, ?_⟩; gi_at_call 19; refine (callsIn_wide.2 (checkPool_any _ _ ss _ (hv.below hb0))).mono ?_; rintro e w1 ⟨rfl, hb1⟩; have g0 : w1.cell? ⟨w.heap.size, 0, none⟩ = some (.int .i64 m) := cell_below hb1 (by simp [go_sem]); have g1 : w1.cell? ⟨w.heap.size, 1, none⟩ = some (.slice A ss.length c) := cell_below hb1 (by simp [go_sem]); have hw1 := hb0.trans (hb1.mono hb0.size))
    | (gi_at_make; refine wpListIn_make_full _ rfl _ _ 47 rfl w1.heap.size 52 i0 _ 2 Try.underlying47 hi0 hz0 hz1 _ _ _ _ m rfl rfl rfl rfl (by rw [hz2]; omega) (by simp [maxLen]; omega) (Nat.le_refl _) ?_; intro w2 hown2 hg2; have hb2 : Below w1.heap.size w1 w2 := (Below.refl _ _).grown hg2 (Nat.le_refl _) (by simp); have hw2 := hw1.trans (hb2.mono hw1.size); have k1 := cell_below hb2 g1; have hG : w.heap.size < w1.heap.size := (by have := World.block_lt_of_cell? w1 _ g0; simpa using this); have hout := outAt_made hown2; have hG2 := hout.lt; have hGG : w.heap.size < w2.heap.size := (by omega); clear hown2 hg2))
  refine wpIn_loop (fun a' W => ∃ (k : Nat) (ds : List Nat) (u7 u22 u23 u24 u25 u26 u27 u55 : Value), (k ≤ ss.length ∧ Below w.heap.size w W ∧ Boxed W w2.heap.size 47 (.slice (some ⟨w1.heap.size, 0, none⟩) m m) ∧ OutAt W w1.heap.size (fun c => boundK ss c k) m ∧ OpenMarks w.heap.size W ds) ∧
    a' = { tmps := List.toArray ((.agg #[.int .i64 (m : Int), .slice A ss.length c]) :: (.pointer (some ⟨w.heap.size, 0, none⟩)) :: (.slice none 0 0) :: (.int .i64 0) :: (.int .i64 0) :: (.pointer (some ⟨w2.heap.size, 0, none⟩)) :: undef :: u7 :: undef :: undef :: (.agg #[.int .i64 (m : Int), .slice A ss.length c]) :: (.int .i64 0) :: (.int .i64 0) :: (.bool false) :: undef :: (.pointer (some ⟨w.heap.size, 0, none⟩)) :: (.int .i64 (m : Int)) :: (.slice (some ⟨w1.heap.size, 0, none⟩) m m) :: (.pointer (some ⟨w.heap.size, 1, none⟩)) :: (.slice A ss.length c) :: (.int .i64 (ss.length : Int)) :: (.int .i64 (k : Int)) :: u22 :: u23 :: u24 :: u25 :: u26 :: u27 :: undef :: undef :: undef :: undef :: undef :: undef :: undef :: undef :: undef :: undef :: undef :: undef :: undef :: undef :: undef :: undef :: undef :: undef :: undef :: undef :: undef :: undef :: undef :: undef :: undef :: undef :: undef :: u55 :: undef :: []), defers := marks ds }) (fun a' _ => ss.length - (intOf (a'.tmps.getD 21 undef)).toNat) ?_ ?_
  · refine ⟨0, [], undef, undef, undef, undef, undef, undef, undef, undef, ⟨by omega, hw2.alloc hw2.size _, Boxed.new _ _ _, (hout.kept (Below.heap_alloc _ _ _ (by omega))).congr (fun _ _ => rfl), by simp [OpenMarks]⟩, rfl⟩
  rintro _ wr ⟨k, ds, u7, u22, u23, u24, u25, u26, u27, u55, ⟨hk, hbr, hbox, hor, hmk⟩, rfl⟩
  dsimp only
  by_cases hlt : k < ss.length
  · obtain ⟨b, o, s, u, rfl, hs, hy, e0, e1, e2, e3, hby⟩ := hv.at_ hlt
    have q1 := hval k s hs
    have hok := seen_ok hn5 q1
    have q2 := stratB_iff.1 q1
    have hl := q2.2.2.2.2.1
    obtain ⟨A', c', rfl, hc', hm'⟩ := hy.form
    obtain ⟨b', o', x0, rfl, _, _, hb'⟩ := hy.at_ (k := 0) (by omega)
    replace e0 := cell_below hbr e0
    replace e1 := cell_below hbr e1
    replace e2 := cell_below hbr e2
    replace e3 := cell_below hbr e3
    have hyr := hy.below hbr
    gi_wp2_with (first
      | (refine ⟨trivial, ?_⟩; gi_at_call 60; refine (callsIn_wide.2 (look_any s _ _ (hyr.below ((Below.refl _ _).alloc (Nat.le_refl _) _)) hok (by omega) (by omega))).mono ?_; rintro e W3 ⟨rfl, hb3⟩)
      | (refine ⟨trivial, ?_⟩; gi_at_call 61; refine (callsIn_wide.2 (spans_val _ _ _ _ _ _ _)).mono ?_; rintro e W4 ⟨rfl, rfl⟩))
    have hsn := strat_nums q1
    obtain ⟨W0, hW0⟩ : ∃ W0, W3.alloc (.cells #[.int .i64 s.coins, .int .i64 s.lo, .int .i64 s.hi, .slice (some ⟨b', o', none⟩) s.seen.length c', .bool ((m : Int) == 1), .int .i64 (s.hi - sumL s.seen)] 95) = W0 := ⟨_, rfl⟩
    have hb30 : Below wr.heap.size wr W3 := ((Below.refl _ _).alloc (Nat.le_refl _) _).trans (hb3.mono (by simp))
    have hw30 : wr.heap.size < W3.heap.size := by have := hb3.size; simp at this; omega
    have hbW : Below wr.heap.size wr W0 := by rw [← hW0]; exact hb30.alloc hb30.size _
    have hsz : W0.heap.size = W3.heap.size + 1 := by rw [← hW0]; simp
    have hLook : LookIn (fun j => j = W3.heap.size ∨ j = b') W0 W3.heap.size ((m : Int) == 1) s.coins s.lo s.hi (s.hi - sumL s.seen) (some ⟨b', o', none⟩) s.seen c' := by
      refine ⟨.inl rfl, by rw [← hW0]; simp [go_sem], by rw [← hW0]; simp [go_sem], by rw [← hW0]; simp [go_sem], by rw [← hW0]; simp [go_sem], by rw [← hW0]; simp [go_sem], by rw [← hW0]; simp [go_sem], fun j hj => ?_⟩
      obtain ⟨b2, o2, x2, e2, hx2, hc2, _⟩ := (hyr.below hbW).at_ hj
      cases e2
      exact ⟨_, _, rfl, .inr rfl, by rw [hx2]; exact hc2⟩
    rw [hW0]
    have hgr : w1.heap.size < wr.heap.size := hor.lt
    have hwr : w.heap.size ≤ wr.heap.size := hbr.size
    refine wpIn_rangeFunc_ownH rfl (by omega) (gf := 81) (lb := #[.pointer (some ⟨W3.heap.size, 0, none⟩)]) rfl trivial (enters_of Try.func81 (by kernel_rfl) rfl)
      (spans_stops 2 (by omega) W3.heap.size (fun j => j = W3.heap.size ∨ j = b') ((m : Int) == 1) s.coins s.lo s.hi (s.hi - sumL s.seen) (some ⟨b', o', none⟩) s.seen c' (by omega) hsn.2.1.1 hsn.1.1 hsn.1.2
        (fun x hx => by have := hsn.2.2.2 x hx; omega) W0 (fun j hj => by rcases hj with rfl | rfl <;> omega) hLook) Keep.trans
      (fun W l o1 o2 hl ho _ _ j hj => World.putObj_heap_other (by rcases hj with rfl | rfl <;> omega)) (Below.refl _ _) (fun _ => rfl)
      (fun pre W => ((Boxed W w2.heap.size 47 (.slice (some ⟨w1.heap.size, 0, none⟩) m m) ∧ OutAt W w1.heap.size (addR (rangeAt s) (fun c => boundK ss c k) pre) m) ∧ Below w.heap.size w W) ∧ (W0.heap.size ≤ W.heap.size ∧ OpenMarks w.heap.size W ds))
      (fun _ _ _ => False) ?hI (fun _ _ _ _ _ hs _ _ => hs) ?h0
      (fun x a' W => ∃ Bx, W0.heap.size ≤ Bx ∧ W.heap[Bx]? = some (.cells #[.int .i64 (rangeAt s x.1).1, .int .i64 (rangeAt s x.1).2] 52 (0, 0)) ∧ a' = { tmps := List.toArray ((.agg #[.int .i64 (m : Int), .slice (some ⟨b, o, none⟩) ss.length c]) :: (.pointer (some ⟨w.heap.size, 0, none⟩)) :: (.slice none 0 0) :: (.int .i64 0) :: (.int .i64 0) :: (.pointer (some ⟨w2.heap.size, 0, none⟩)) :: undef :: (.pointer (some ⟨wr.heap.size, 0, none⟩)) :: (.int .i64 (x.1 : Int)) :: (.pointer (some ⟨Bx, 0, none⟩)) :: (.agg #[.int .i64 (m : Int), .slice (some ⟨b, o, none⟩) ss.length c]) :: (.int .i64 0) :: (.int .i64 0) :: (.bool false) :: undef :: (.pointer (some ⟨w.heap.size, 0, none⟩)) :: (.int .i64 (m : Int)) :: (.slice (some ⟨w1.heap.size, 0, none⟩) m m) :: (.pointer (some ⟨w.heap.size, 1, none⟩)) :: (.slice (some ⟨b, o, none⟩) ss.length c) :: (.int .i64 (ss.length : Int)) :: (.int .i64 (k : Int)) :: (.bool true) :: (.pointer (some ⟨b, o + k * 4, none⟩)) :: (.agg #[.int .i64 s.coins, .int .i64 s.lo, .int .i64 s.hi, .slice (some ⟨b', o', none⟩) s.seen.length c']) :: (.agg #[.int .i64 s.coins, .int .i64 s.lo, .int .i64 s.hi, .slice (some ⟨b', o', none⟩) s.seen.length c']) :: (.agg #[.int .i64 s.coins, .int .i64 s.lo, .int .i64 s.hi, .slice (some ⟨b', o', none⟩) s.seen.length c', .bool ((m : Int) == 1), .int .i64 (s.hi - sumL s.seen)]) :: (.func (.func 81) #[] #[.pointer (some ⟨W3.heap.size, 0, none⟩)]) :: (.int .i64 (x.1 : Int)) :: (.agg #[.int .i64 (rangeAt s x.1).1, .int .i64 (rangeAt s x.1).2]) :: undef :: undef :: undef :: undef :: undef :: undef :: undef :: undef :: undef :: undef :: undef :: undef :: undef :: undef :: undef :: undef :: undef :: undef :: undef :: undef :: undef :: undef :: undef :: undef :: undef :: u55 :: undef :: []), defers := [] })
      ?hAx ?assign ?body ?done ?stop
    case hI => exact OwnFrom.and (OwnFrom.and (OwnFrom.and (Own.from (boxed_own _ _ _) _) (Own.from (OutAt.own (B := 0) _) _)) (ownFrom_below (Nat.le_refl _) (by omega))) (OwnFrom.and size_own (OpenMarks.own fun d hd => Nat.lt_of_lt_of_le (Array.getElem?_eq_some_iff.1 (hmk.2 d hd).2).1 hbW.size))
    case h0 => exact ⟨⟨⟨(hbW.block _ hbox.lt).trans hbox, (hor.kept (hbW.block _ hor.lt)).congr (fun _ _ => rfl)⟩, hbr.trans (hbW.mono hbr.size)⟩, Nat.le_refl _, hmk.keeps (keeps_below hbW)⟩
    case hAx =>
      rintro x a' _ X Y row ⟨Bx, h1, h2, h3⟩ hg hr
      refine ⟨Bx, h1, (hg.block Bx (Array.getElem?_eq_some_iff.1 h2).1 (fun e => ?_)).trans h2, h3⟩
      obtain ⟨_, o, ho, hc⟩ := hr Bx e.symm
      rw [h2] at ho
      cases ho
      cases hc
    case assign =>
      rintro id pre x W K hI hK
      have hE : spanE ((m : Int) == 1) s.coins s.lo s.hi (s.hi - sumL s.seen) s.seen x = #[.int .i64 (x.1 : Int), .agg #[.int .i64 (rangeAt s x.1).1, .int .i64 (rangeAt s x.1).2]] := by
        simp only [spanE, rangeAt, hl]
      rw [hE]
      generalize (rangeAt s x.1).1 = y1 at *
      generalize (rangeAt s x.1).2 = y2 at *
      gi_wp2
      refine hK _ _ ((KeepsOthers.alloc _ _).from _) ?_ ?_ ⟨W.heap.size, hI.2.1, World.alloc_heap_new _ _, rfl⟩
      · exact fun j hj => Below.heap_alloc _ _ _ (by have := hI.2.1; rcases hj with rfl | rfl <;> omega)
      · exact ⟨⟨⟨hI.1.1.1.alloc _, hI.1.1.2.kept (Below.heap_alloc _ _ _ hI.1.1.2.lt)⟩, hI.1.2.alloc hI.1.2.size _⟩, by have := hI.2.1; simp; omega, hI.2.2.keeps (KeepsOthers.alloc _ _)⟩
    case body =>
      rintro id pre ⟨jx, hjx⟩ a' W hlW ⟨r, hrec⟩ ⟨⟨⟨hbx, hou⟩, hbw⟩, hsW, hmW⟩ ⟨Bx, hBx, hbX, rfl⟩ hpre
      dsimp only
      have hxm : jx < m := by omega
      have i0 : (0 : Int) ≤ (jx : Int) := by omega
      have i1 : (jx : Int) < (m : Int) := by omega
      have xc0 : W.cell? ⟨Bx, 0, none⟩ = some (.int .i64 (rangeAt s jx).1) := by simp [World.cell?, hbX]
      have xc1 : W.cell? ⟨Bx, 1, none⟩ = some (.int .i64 (rangeAt s jx).2) := by simp [World.cell?, hbX]
      have hstep : ∀ c, addR (rangeAt s) (fun c => boundK ss c k) (pre ++ [⟨jx, hjx⟩]) c = if c = jx then addP (addR (rangeAt s) (fun c => boundK ss c k) pre c) (rangeAt s c) else addR (rangeAt s) (fun c => boundK ss c k) pre c := fun c => addR_snoc _ _ _ _ _
      obtain ⟨y1, hy1⟩ : ∃ y, (rangeAt s jx).1 = y := ⟨_, rfl⟩
      obtain ⟨y2, hy2⟩ : ∃ y, (rangeAt s jx).2 = y := ⟨_, rfl⟩
      have hy : rangeAt s jx = (y1, y2) := by rw [← hy1, ← hy2]
      rw [hy1] at xc0
      rw [hy2] at xc1
      rw [hy1, hy2]
      by_cases hz : y1 = 0 ∧ y2 = 0
      · obtain ⟨rfl, rfl⟩ := hz
        gi_wp2
        refine ⟨KeepsFrom.refl _ _, Keep.refl _ _, ⟨⟨hbx, hou.congr fun c hc => ?_⟩, hbw⟩, by omega, hmW⟩
        rw [hstep]
        split
        · rename_i e
          rw [e, hy]
          simp [addP]
        · rfl
      · have SB := hbx.cell
        have S0 := hou.c0 hxm
        have S1 := hou.c1 hxm
        have bd := addR_bd (rangeAt s) (fun c => boundK ss c k) 10000000000000 (k * 10000000000000) pre jx (rangeAt_bd q1 jx).1 (rangeAt_bd q1 jx).2 (boundK_bd hval jx k).1 (boundK_bd hval jx k).2
        have bd2 := rangeAt_bd q1 jx
        rw [hy] at bd2
        obtain ⟨f1, hf1⟩ : ∃ y, (addR (rangeAt s) (fun c => boundK ss c k) pre jx).1 = y := ⟨_, rfl⟩
        obtain ⟨f2, hf2⟩ : ∃ y, (addR (rangeAt s) (fun c => boundK ss c k) pre jx).2 = y := ⟨_, rfl⟩
        rw [hf1] at S0 bd
        rw [hf2] at S1 bd
        have hk8 : (k : Int) ≤ 8 := by omega
        have hp8 : (pre.length : Int) ≤ 5 := by omega
        have hB1 : 0 ≤ f1 ∧ f1 ≤ 130000000000000 := by omega
        have hB2 : 0 ≤ f2 ∧ f2 ≤ 130000000000000 := by omega
        have hB3 : 0 ≤ y1 ∧ y1 ≤ 10000000000000 := bd2.1
        have hB4 : 0 ≤ y2 ∧ y2 ≤ 10000000000000 := bd2.2
        have SW := And.intro SB (And.intro S0 (And.intro S1 (And.intro xc0 xc1)))
        have fin : ∀ W', Below W.heap.size W W' → KeepsFrom W0.heap.size W ((W'.setCell ⟨w1.heap.size, jx * 2, none⟩ (.int .i64 (f1 + y1))).setCell ⟨w1.heap.size, jx * 2 + 1, none⟩ (.int .i64 (f2 + y2))) ∧
            Keep (fun j => j = W3.heap.size ∨ j = b') W ((W'.setCell ⟨w1.heap.size, jx * 2, none⟩ (.int .i64 (f1 + y1))).setCell ⟨w1.heap.size, jx * 2 + 1, none⟩ (.int .i64 (f2 + y2))) ∧
            ((Boxed ((W'.setCell ⟨w1.heap.size, jx * 2, none⟩ (.int .i64 (f1 + y1))).setCell ⟨w1.heap.size, jx * 2 + 1, none⟩ (.int .i64 (f2 + y2))) w2.heap.size 47 (.slice (some ⟨w1.heap.size, 0, none⟩) m m) ∧
              OutAt ((W'.setCell ⟨w1.heap.size, jx * 2, none⟩ (.int .i64 (f1 + y1))).setCell ⟨w1.heap.size, jx * 2 + 1, none⟩ (.int .i64 (f2 + y2))) w1.heap.size (addR (rangeAt s) (fun c => boundK ss c k) (pre ++ [⟨jx, hjx⟩])) m) ∧
              Below w.heap.size w ((W'.setCell ⟨w1.heap.size, jx * 2, none⟩ (.int .i64 (f1 + y1))).setCell ⟨w1.heap.size, jx * 2 + 1, none⟩ (.int .i64 (f2 + y2)))) ∧
            W0.heap.size ≤ ((W'.setCell ⟨w1.heap.size, jx * 2, none⟩ (.int .i64 (f1 + y1))).setCell ⟨w1.heap.size, jx * 2 + 1, none⟩ (.int .i64 (f2 + y2))).heap.size ∧
            OpenMarks w.heap.size ((W'.setCell ⟨w1.heap.size, jx * 2, none⟩ (.int .i64 (f1 + y1))).setCell ⟨w1.heap.size, jx * 2 + 1, none⟩ (.int .i64 (f2 + y2))) ds := by
          intro W' hb
          have hX : ¬ ((fun j => j = W3.heap.size ∨ j = b') w1.heap.size) := by dsimp only; omega
          have hk := (keeps_below hb).trans ((KeepsOthers.setCell W' ⟨w1.heap.size, jx * 2, none⟩ (.int .i64 (f1 + y1))).trans (KeepsOthers.setCell _ ⟨w1.heap.size, jx * 2 + 1, none⟩ (.int .i64 (f2 + y2))))
          refine ⟨hk.from _, ((Keep.below (fun j hj => by rcases hj with rfl | rfl <;> omega) hb).setCell hX _ _).setCell hX _ _, ⟨⟨?_, ?_⟩, ?_⟩, ?_, hmW.keeps hk⟩
          · exact (heap_setCell_other _ _ _ _ (by omega)).trans ((heap_setCell_other _ _ _ _ (by omega)).trans ((hb.block _ hbx.lt).trans hbx))
          · refine (((hou.kept (hb.block _ hou.lt)).set hxm (f1 + y1) (f2 + y2))).congr fun c hc => ?_
            rw [hstep]
            split
            · rename_i e
              subst e
              rw [hy]
              simp only [addP, hf1, hf2]
            · rfl
          · exact ((hbw.trans (hb.mono hbw.size)).setCell (p := ⟨w1.heap.size, jx * 2, none⟩) (by simp only; omega) _).setCell (p := ⟨w1.heap.size, jx * 2 + 1, none⟩) (by simp only; omega) _
          · exact Nat.le_trans (by omega) hk.size
        clear bd bd2 hf hval q2 hsn
        have hz' : y1 ≠ 0 ∨ (y1 = 0 ∧ y2 ≠ 0) := by omega
        rcases hz' with hne | ⟨rfl, hne⟩
        · gi_wp2_with fail
          clear xc0 xc1 hne hz
          refine wpIn_region_pickA [0, 1, 2, 3, 4, 5, 6, 7, 8, 11, 12, 13, 14, 15, 16, 17] 7 (fun j => j != 22) (fun w' => w'.cell? ⟨w2.heap.size, 0, none⟩ = some (.slice (some ⟨w1.heap.size, 0, none⟩) m m) ∧ w'.cell? ⟨w1.heap.size, jx * 2, none⟩ = some (.int .i64 f1) ∧ w'.cell? ⟨w1.heap.size, jx * 2 + 1, none⟩ = some (.int .i64 f2) ∧ w'.cell? ⟨Bx, 0, none⟩ = some (.int .i64 y1) ∧ w'.cell? ⟨Bx, 1, none⟩ = some (.int .i64 y2)) (by kernel_rfl) (by kernel_rfl) (fun ⟨_, _, h⟩ => h) (fun _ _ _ _ _ h => h) SW (fun hne => ?_)
          have m0 := fun x : Meets (fun w' => w'.cell? ⟨w2.heap.size, 0, none⟩ = some (.slice (some ⟨w1.heap.size, 0, none⟩) m m) ∧ w'.cell? ⟨w1.heap.size, jx * 2, none⟩ = some (.int .i64 f1) ∧ w'.cell? ⟨w1.heap.size, jx * 2 + 1, none⟩ = some (.int .i64 f2) ∧ w'.cell? ⟨Bx, 0, none⟩ = some (.int .i64 y1) ∧ w'.cell? ⟨Bx, 1, none⟩ = some (.int .i64 y2)) => x.property
          have n0 := fun x => (m0 x).1
          have n1 := fun x => (m0 x).2.1
          have n2 := fun x => (m0 x).2.2.1
          have n3 := fun x => (m0 x).2.2.2.1
          have n4 := fun x => (m0 x).2.2.2.2
          clear m0
          simp only [pick, pickN, List.filterMap_cons, List.filterMap_nil, List.getElem?_cons_zero, List.getElem?_cons_succ, Option.map_some]
          repeat (change wpQuiet _ _ _ _ (_ :: _) _; go_big_quiet_step (fail))
          refine wpQuiet_nil ?_
          clear n0 n1 n2 n3 n4 hne
          have d0 : Below W.heap.size W W.drew := (Below.refl _ _).drew
          refine wpAnyF_two (i := 9) (j := 18) (by kernel_rfl) rfl rfl (fun K hK => ?_) (fun K hK => ?_)
          · go_simp
            have d0a : Below W.heap.size W (W.drew.alloc (.cells #[.int .i64 f1, .int .i64 y1] 3)) := d0.alloc d0.size _
            refine hK.out _ _ (fun _ => ⟨cell_below d0a SW.1, cell_below d0a SW.2.1, cell_below d0a SW.2.2.1, cell_below d0a SW.2.2.2.1, cell_below d0a SW.2.2.2.2⟩) ?_
            clear hK K
            refine wpAnyF_two (i := 10) (j := 18) (by kernel_rfl) rfl rfl (fun K hK => ?_) (fun K hK => ?_)
            · go_simp
              refine (sum_two (b := W.heap.size) (x := f1) (y := y1) (by simp [go_sem]) (by simp [go_sem]) (by omega) (by omega)).mono ?_
              rintro _ _ ⟨rfl, rfl⟩
              refine hK.out _ _ (fun _ => ⟨cell_below d0a SW.1, cell_below d0a SW.2.1, cell_below d0a SW.2.2.1, cell_below d0a SW.2.2.2.1, cell_below d0a SW.2.2.2.2⟩) ?_
              clear hK K
              refine wpAnyF_of_pick [18, 19, 20, 21, 22] _ _ _ (by simp) (by kernel_rfl) ?_
              simp only [pickN, List.filterMap_cons, List.filterMap_nil, List.getElem?_cons_zero, List.getElem?_cons_succ, Option.map_some]
              refine wpSeqP_step (fun K hK => ?_)
              go_simp
              have d0ab : Below W.heap.size W ((W.drew.alloc (.cells #[.int .i64 f1, .int .i64 y1] 3)).alloc (.cells #[.int .i64 f2, .int .i64 y2] 3)) := d0a.alloc d0a.size _
              refine hK.out _ _ (fun _ => ⟨cell_below d0ab SW.1, cell_below d0ab SW.2.1, cell_below d0ab SW.2.2.1, cell_below d0ab SW.2.2.2.1, cell_below d0ab SW.2.2.2.2⟩) ?_
              clear hK K
              refine wpSeqP_step (fun K hK => ?_)
              go_simp
              refine (sum_two (b := W.heap.size + 1) (x := f2) (y := y2) (by simp [go_sem]) (by simp [go_sem]) (by omega) (by omega)).mono ?_
              rintro _ _ ⟨rfl, rfl⟩
              refine hK.out _ _ (fun _ => ⟨cell_below d0ab SW.1, cell_below d0ab SW.2.1, cell_below d0ab SW.2.2.1, cell_below d0ab SW.2.2.2.1, cell_below d0ab SW.2.2.2.2⟩) ?_
              clear hK K
              refine wpSeqP_step (fun K hK => ?_)
              go_simp
              refine hK.out _ _ (fun _ => ⟨cell_below d0ab SW.1, cell_below d0ab SW.2.1, cell_below d0ab SW.2.2.1, cell_below d0ab SW.2.2.2.1, cell_below d0ab SW.2.2.2.2⟩) ?_
              clear hK K
              refine wpSeqP_step (fun K hK => ?_)
              go_simp
              refine hK.out _ _ (fun _ => ⟨cell_below d0ab SW.1, cell_below d0ab SW.2.1, cell_below d0ab SW.2.2.1, cell_below d0ab SW.2.2.2.1, cell_below d0ab SW.2.2.2.2⟩) ?_
              clear hK K
              refine wpSeqP_name (fun W9 => Below W.heap.size W W9) d0ab (fun W9 h9 => ?_)
              have z0 := cell_below h9 SW.2.1
              have z1 := cell_below h9 SW.2.2.1
              have z2 : W9.frozen? ⟨w1.heap.size, jx * 2, none⟩ = false := by rw [h9.frozen (p := ⟨w1.heap.size, jx * 2, none⟩) hou.lt]; exact hou.frozen _
              have z3 : W9.frozen? ⟨w1.heap.size, jx * 2 + 1, none⟩ = false := by rw [h9.frozen (p := ⟨w1.heap.size, jx * 2 + 1, none⟩) hou.lt]; exact hou.frozen _
              refine wpSeqP_step (fun K hK => ?_)
              go_simp
              refine hK.out _ _ (fun h => by cases h) ?_
              refine wpSeqP_nil ?_
              exact fin _ h9
            · go_simp
              have d0ab : Below W.heap.size W ((W.drew.alloc (.cells #[.int .i64 f1, .int .i64 y1] 3)).alloc (.cells #[.int .i64 f2, .int .i64 y2] 3)) := d0a.alloc d0a.size _
              refine hK.out _ _ (fun _ => ⟨cell_below d0ab SW.1, cell_below d0ab SW.2.1, cell_below d0ab SW.2.2.1, cell_below d0ab SW.2.2.2.1, cell_below d0ab SW.2.2.2.2⟩) ?_
              clear hK K
              refine wpAnyF_of_pick [10, 19, 20, 21, 22] _ _ _ (by simp) (by kernel_rfl) ?_
              simp only [pickN, List.filterMap_cons, List.filterMap_nil, List.getElem?_cons_zero, List.getElem?_cons_succ, Option.map_some]
              refine wpSeqP_step (fun K hK => ?_)
              go_simp
              refine (sum_two (b := W.heap.size) (x := f1) (y := y1) (by simp [go_sem]) (by simp [go_sem]) (by omega) (by omega)).mono ?_
              rintro _ _ ⟨rfl, rfl⟩
              refine hK.out _ _ (fun _ => ⟨cell_below d0ab SW.1, cell_below d0ab SW.2.1, cell_below d0ab SW.2.2.1, cell_below d0ab SW.2.2.2.1, cell_below d0ab SW.2.2.2.2⟩) ?_
              clear hK K
              refine wpSeqP_step (fun K hK => ?_)
              go_simp
              refine (sum_two (b := W.heap.size + 1) (x := f2) (y := y2) (by simp [go_sem]) (by simp [go_sem]) (by omega) (by omega)).mono ?_
              rintro _ _ ⟨rfl, rfl⟩
              refine hK.out _ _ (fun _ => ⟨cell_below d0ab SW.1, cell_below d0ab SW.2.1, cell_below d0ab SW.2.2.1, cell_below d0ab SW.2.2.2.1, cell_below d0ab SW.2.2.2.2⟩) ?_
              clear hK K
              refine wpSeqP_step (fun K hK => ?_)
              go_simp
              refine hK.out _ _ (fun _ => ⟨cell_below d0ab SW.1, cell_below d0ab SW.2.1, cell_below d0ab SW.2.2.1, cell_below d0ab SW.2.2.2.1, cell_below d0ab SW.2.2.2.2⟩) ?_
              clear hK K
              refine wpSeqP_step (fun K hK => ?_)
              go_simp
              refine hK.out _ _ (fun _ => ⟨cell_below d0ab SW.1, cell_below d0ab SW.2.1, cell_below d0ab SW.2.2.1, cell_below d0ab SW.2.2.2.1, cell_below d0ab SW.2.2.2.2⟩) ?_
              clear hK K
              refine wpSeqP_name (fun W9 => Below W.heap.size W W9) d0ab (fun W9 h9 => ?_)
              have z0 := cell_below h9 SW.2.1
              have z1 := cell_below h9 SW.2.2.1
              have z2 : W9.frozen? ⟨w1.heap.size, jx * 2, none⟩ = false := by rw [h9.frozen (p := ⟨w1.heap.size, jx * 2, none⟩) hou.lt]; exact hou.frozen _
              have z3 : W9.frozen? ⟨w1.heap.size, jx * 2 + 1, none⟩ = false := by rw [h9.frozen (p := ⟨w1.heap.size, jx * 2 + 1, none⟩) hou.lt]; exact hou.frozen _
              refine wpSeqP_step (fun K hK => ?_)
              go_simp
              refine hK.out _ _ (fun h => by cases h) ?_
              refine wpSeqP_nil ?_
              exact fin _ h9
          · go_simp
            have d0b : Below W.heap.size W (W.drew.alloc (.cells #[.int .i64 f2, .int .i64 y2] 3)) := d0.alloc d0.size _
            refine hK.out _ _ (fun _ => ⟨cell_below d0b SW.1, cell_below d0b SW.2.1, cell_below d0b SW.2.2.1, cell_below d0b SW.2.2.2.1, cell_below d0b SW.2.2.2.2⟩) ?_
            clear hK K
            refine wpAnyF_of_pick [9, 10, 19, 20, 21, 22] _ _ _ (by simp) (by kernel_rfl) ?_
            simp only [pickN, List.filterMap_cons, List.filterMap_nil, List.getElem?_cons_zero, List.getElem?_cons_succ, Option.map_some]
            refine wpSeqP_step (fun K hK => ?_)
            go_simp
            have d0ba : Below W.heap.size W ((W.drew.alloc (.cells #[.int .i64 f2, .int .i64 y2] 3)).alloc (.cells #[.int .i64 f1, .int .i64 y1] 3)) := d0b.alloc d0b.size _
            refine hK.out _ _ (fun _ => ⟨cell_below d0ba SW.1, cell_below d0ba SW.2.1, cell_below d0ba SW.2.2.1, cell_below d0ba SW.2.2.2.1, cell_below d0ba SW.2.2.2.2⟩) ?_
            clear hK K
            refine wpSeqP_step (fun K hK => ?_)
            go_simp
            refine (sum_two (b := W.heap.size + 1) (x := f1) (y := y1) (by simp [go_sem]) (by simp [go_sem]) (by omega) (by omega)).mono ?_
            rintro _ _ ⟨rfl, rfl⟩
            refine hK.out _ _ (fun _ => ⟨cell_below d0ba SW.1, cell_below d0ba SW.2.1, cell_below d0ba SW.2.2.1, cell_below d0ba SW.2.2.2.1, cell_below d0ba SW.2.2.2.2⟩) ?_
            clear hK K
            refine wpSeqP_step (fun K hK => ?_)
            go_simp
            refine (sum_two (b := W.heap.size) (x := f2) (y := y2) (by simp [go_sem]) (by simp [go_sem]) (by omega) (by omega)).mono ?_
            rintro _ _ ⟨rfl, rfl⟩
            refine hK.out _ _ (fun _ => ⟨cell_below d0ba SW.1, cell_below d0ba SW.2.1, cell_below d0ba SW.2.2.1, cell_below d0ba SW.2.2.2.1, cell_below d0ba SW.2.2.2.2⟩) ?_
            clear hK K
            refine wpSeqP_step (fun K hK => ?_)
            go_simp
            refine hK.out _ _ (fun _ => ⟨cell_below d0ba SW.1, cell_below d0ba SW.2.1, cell_below d0ba SW.2.2.1, cell_below d0ba SW.2.2.2.1, cell_below d0ba SW.2.2.2.2⟩) ?_
            clear hK K
            refine wpSeqP_step (fun K hK => ?_)
            go_simp
            refine hK.out _ _ (fun _ => ⟨cell_below d0ba SW.1, cell_below d0ba SW.2.1, cell_below d0ba SW.2.2.1, cell_below d0ba SW.2.2.2.1, cell_below d0ba SW.2.2.2.2⟩) ?_
            clear hK K
            refine wpSeqP_name (fun W9 => Below W.heap.size W W9) d0ba (fun W9 h9 => ?_)
            have z0 := cell_below h9 SW.2.1
            have z1 := cell_below h9 SW.2.2.1
            have z2 : W9.frozen? ⟨w1.heap.size, jx * 2, none⟩ = false := by rw [h9.frozen (p := ⟨w1.heap.size, jx * 2, none⟩) hou.lt]; exact hou.frozen _
            have z3 : W9.frozen? ⟨w1.heap.size, jx * 2 + 1, none⟩ = false := by rw [h9.frozen (p := ⟨w1.heap.size, jx * 2 + 1, none⟩) hou.lt]; exact hou.frozen _
            refine wpSeqP_step (fun K hK => ?_)
            go_simp
            refine hK.out _ _ (fun h => by cases h) ?_
            refine wpSeqP_nil ?_
            exact fin _ h9
        · simp only [Int.add_zero] at fin
          gi_wp2_with fail
          clear xc0 xc1 hne hz
          refine wpIn_region_pickA [0, 1, 2, 3, 4, 5, 6, 7, 8, 11, 12, 13, 14, 15, 16, 17] 7 (fun j => j != 22) (fun w' => w'.cell? ⟨w2.heap.size, 0, none⟩ = some (.slice (some ⟨w1.heap.size, 0, none⟩) m m) ∧ w'.cell? ⟨w1.heap.size, jx * 2, none⟩ = some (.int .i64 f1) ∧ w'.cell? ⟨w1.heap.size, jx * 2 + 1, none⟩ = some (.int .i64 f2) ∧ w'.cell? ⟨Bx, 0, none⟩ = some (.int .i64 (0 : Int)) ∧ w'.cell? ⟨Bx, 1, none⟩ = some (.int .i64 y2)) (by kernel_rfl) (by kernel_rfl) (fun ⟨_, _, h⟩ => h) (fun _ _ _ _ _ h => h) SW (fun hne => ?_)
          have m0 := fun x : Meets (fun w' => w'.cell? ⟨w2.heap.size, 0, none⟩ = some (.slice (some ⟨w1.heap.size, 0, none⟩) m m) ∧ w'.cell? ⟨w1.heap.size, jx * 2, none⟩ = some (.int .i64 f1) ∧ w'.cell? ⟨w1.heap.size, jx * 2 + 1, none⟩ = some (.int .i64 f2) ∧ w'.cell? ⟨Bx, 0, none⟩ = some (.int .i64 (0 : Int)) ∧ w'.cell? ⟨Bx, 1, none⟩ = some (.int .i64 y2)) => x.property
          have n0 := fun x => (m0 x).1
          have n1 := fun x => (m0 x).2.1
          have n2 := fun x => (m0 x).2.2.1
          have n3 := fun x => (m0 x).2.2.2.1
          have n4 := fun x => (m0 x).2.2.2.2
          clear m0
          simp only [pick, pickN, List.filterMap_cons, List.filterMap_nil, List.getElem?_cons_zero, List.getElem?_cons_succ, Option.map_some]
          repeat (change wpQuiet _ _ _ _ (_ :: _) _; go_big_quiet_step (fail))
          refine wpQuiet_nil ?_
          clear n0 n1 n2 n3 n4 hne
          have d0 : Below W.heap.size W W.drew := (Below.refl _ _).drew
          refine wpAnyF_two (i := 9) (j := 18) (by kernel_rfl) rfl rfl (fun K hK => ?_) (fun K hK => ?_)
          · go_simp
            have d0a : Below W.heap.size W (W.drew.alloc (.cells #[.int .i64 f1, .int .i64 (0 : Int)] 3)) := d0.alloc d0.size _
            refine hK.out _ _ (fun _ => ⟨cell_below d0a SW.1, cell_below d0a SW.2.1, cell_below d0a SW.2.2.1, cell_below d0a SW.2.2.2.1, cell_below d0a SW.2.2.2.2⟩) ?_
            clear hK K
            refine wpAnyF_two (i := 10) (j := 18) (by kernel_rfl) rfl rfl (fun K hK => ?_) (fun K hK => ?_)
            · go_simp
              refine (sum_two (b := W.heap.size) (x := f1) (y := (0 : Int)) (by simp [go_sem]) (by simp [go_sem]) (by omega) (by omega)).mono ?_
              rintro _ _ ⟨rfl, rfl⟩
              refine hK.out _ _ (fun _ => ⟨cell_below d0a SW.1, cell_below d0a SW.2.1, cell_below d0a SW.2.2.1, cell_below d0a SW.2.2.2.1, cell_below d0a SW.2.2.2.2⟩) ?_
              clear hK K
              refine wpAnyF_of_pick [18, 19, 20, 21, 22] _ _ _ (by simp) (by kernel_rfl) ?_
              simp only [pickN, List.filterMap_cons, List.filterMap_nil, List.getElem?_cons_zero, List.getElem?_cons_succ, Option.map_some]
              refine wpSeqP_step (fun K hK => ?_)
              go_simp
              have d0ab : Below W.heap.size W ((W.drew.alloc (.cells #[.int .i64 f1, .int .i64 (0 : Int)] 3)).alloc (.cells #[.int .i64 f2, .int .i64 y2] 3)) := d0a.alloc d0a.size _
              refine hK.out _ _ (fun _ => ⟨cell_below d0ab SW.1, cell_below d0ab SW.2.1, cell_below d0ab SW.2.2.1, cell_below d0ab SW.2.2.2.1, cell_below d0ab SW.2.2.2.2⟩) ?_
              clear hK K
              refine wpSeqP_step (fun K hK => ?_)
              go_simp
              refine (sum_two (b := W.heap.size + 1) (x := f2) (y := y2) (by simp [go_sem]) (by simp [go_sem]) (by omega) (by omega)).mono ?_
              rintro _ _ ⟨rfl, rfl⟩
              refine hK.out _ _ (fun _ => ⟨cell_below d0ab SW.1, cell_below d0ab SW.2.1, cell_below d0ab SW.2.2.1, cell_below d0ab SW.2.2.2.1, cell_below d0ab SW.2.2.2.2⟩) ?_
              clear hK K
              refine wpSeqP_step (fun K hK => ?_)
              go_simp
              refine hK.out _ _ (fun _ => ⟨cell_below d0ab SW.1, cell_below d0ab SW.2.1, cell_below d0ab SW.2.2.1, cell_below d0ab SW.2.2.2.1, cell_below d0ab SW.2.2.2.2⟩) ?_
              clear hK K
              refine wpSeqP_step (fun K hK => ?_)
              go_simp
              refine hK.out _ _ (fun _ => ⟨cell_below d0ab SW.1, cell_below d0ab SW.2.1, cell_below d0ab SW.2.2.1, cell_below d0ab SW.2.2.2.1, cell_below d0ab SW.2.2.2.2⟩) ?_
              clear hK K
              refine wpSeqP_name (fun W9 => Below W.heap.size W W9) d0ab (fun W9 h9 => ?_)
              have z0 := cell_below h9 SW.2.1
              have z1 := cell_below h9 SW.2.2.1
              have z2 : W9.frozen? ⟨w1.heap.size, jx * 2, none⟩ = false := by rw [h9.frozen (p := ⟨w1.heap.size, jx * 2, none⟩) hou.lt]; exact hou.frozen _
              have z3 : W9.frozen? ⟨w1.heap.size, jx * 2 + 1, none⟩ = false := by rw [h9.frozen (p := ⟨w1.heap.size, jx * 2 + 1, none⟩) hou.lt]; exact hou.frozen _
              refine wpSeqP_step (fun K hK => ?_)
              go_simp
              refine hK.out _ _ (fun h => by cases h) ?_
              refine wpSeqP_nil ?_
              exact fin _ h9
            · go_simp
              have d0ab : Below W.heap.size W ((W.drew.alloc (.cells #[.int .i64 f1, .int .i64 (0 : Int)] 3)).alloc (.cells #[.int .i64 f2, .int .i64 y2] 3)) := d0a.alloc d0a.size _
              refine hK.out _ _ (fun _ => ⟨cell_below d0ab SW.1, cell_below d0ab SW.2.1, cell_below d0ab SW.2.2.1, cell_below d0ab SW.2.2.2.1, cell_below d0ab SW.2.2.2.2⟩) ?_
              clear hK K
              refine wpAnyF_of_pick [10, 19, 20, 21, 22] _ _ _ (by simp) (by kernel_rfl) ?_
              simp only [pickN, List.filterMap_cons, List.filterMap_nil, List.getElem?_cons_zero, List.getElem?_cons_succ, Option.map_some]
              refine wpSeqP_step (fun K hK => ?_)
              go_simp
              refine (sum_two (b := W.heap.size) (x := f1) (y := (0 : Int)) (by simp [go_sem]) (by simp [go_sem]) (by omega) (by omega)).mono ?_
              rintro _ _ ⟨rfl, rfl⟩
              refine hK.out _ _ (fun _ => ⟨cell_below d0ab SW.1, cell_below d0ab SW.2.1, cell_below d0ab SW.2.2.1, cell_below d0ab SW.2.2.2.1, cell_below d0ab SW.2.2.2.2⟩) ?_
              clear hK K
              refine wpSeqP_step (fun K hK => ?_)
              go_simp
              refine (sum_two (b := W.heap.size + 1) (x := f2) (y := y2) (by simp [go_sem]) (by simp [go_sem]) (by omega) (by omega)).mono ?_
              rintro _ _ ⟨rfl, rfl⟩
              refine hK.out _ _ (fun _ => ⟨cell_below d0ab SW.1, cell_below d0ab SW.2.1, cell_below d0ab SW.2.2.1, cell_below d0ab SW.2.2.2.1, cell_below d0ab SW.2.2.2.2⟩) ?_
              clear hK K
              refine wpSeqP_step (fun K hK => ?_)
              go_simp
              refine hK.out _ _ (fun _ => ⟨cell_below d0ab SW.1, cell_below d0ab SW.2.1, cell_below d0ab SW.2.2.1, cell_below d0ab SW.2.2.2.1, cell_below d0ab SW.2.2.2.2⟩) ?_
              clear hK K
              refine wpSeqP_step (fun K hK => ?_)
              go_simp
              refine hK.out _ _ (fun _ => ⟨cell_below d0ab SW.1, cell_below d0ab SW.2.1, cell_below d0ab SW.2.2.1, cell_below d0ab SW.2.2.2.1, cell_below d0ab SW.2.2.2.2⟩) ?_
              clear hK K
              refine wpSeqP_name (fun W9 => Below W.heap.size W W9) d0ab (fun W9 h9 => ?_)
              have z0 := cell_below h9 SW.2.1
              have z1 := cell_below h9 SW.2.2.1
              have z2 : W9.frozen? ⟨w1.heap.size, jx * 2, none⟩ = false := by rw [h9.frozen (p := ⟨w1.heap.size, jx * 2, none⟩) hou.lt]; exact hou.frozen _
              have z3 : W9.frozen? ⟨w1.heap.size, jx * 2 + 1, none⟩ = false := by rw [h9.frozen (p := ⟨w1.heap.size, jx * 2 + 1, none⟩) hou.lt]; exact hou.frozen _
              refine wpSeqP_step (fun K hK => ?_)
              go_simp
              refine hK.out _ _ (fun h => by cases h) ?_
              refine wpSeqP_nil ?_
              exact fin _ h9
          · go_simp
            have d0b : Below W.heap.size W (W.drew.alloc (.cells #[.int .i64 f2, .int .i64 y2] 3)) := d0.alloc d0.size _
            refine hK.out _ _ (fun _ => ⟨cell_below d0b SW.1, cell_below d0b SW.2.1, cell_below d0b SW.2.2.1, cell_below d0b SW.2.2.2.1, cell_below d0b SW.2.2.2.2⟩) ?_
            clear hK K
            refine wpAnyF_of_pick [9, 10, 19, 20, 21, 22] _ _ _ (by simp) (by kernel_rfl) ?_
            simp only [pickN, List.filterMap_cons, List.filterMap_nil, List.getElem?_cons_zero, List.getElem?_cons_succ, Option.map_some]
            refine wpSeqP_step (fun K hK => ?_)
            go_simp
            have d0ba : Below W.heap.size W ((W.drew.alloc (.cells #[.int .i64 f2, .int .i64 y2] 3)).alloc (.cells #[.int .i64 f1, .int .i64 (0 : Int)] 3)) := d0b.alloc d0b.size _
            refine hK.out _ _ (fun _ => ⟨cell_below d0ba SW.1, cell_below d0ba SW.2.1, cell_below d0ba SW.2.2.1, cell_below d0ba SW.2.2.2.1, cell_below d0ba SW.2.2.2.2⟩) ?_
            clear hK K
            refine wpSeqP_step (fun K hK => ?_)
            go_simp
            refine (sum_two (b := W.heap.size + 1) (x := f1) (y := (0 : Int)) (by simp [go_sem]) (by simp [go_sem]) (by omega) (by omega)).mono ?_
            rintro _ _ ⟨rfl, rfl⟩
            refine hK.out _ _ (fun _ => ⟨cell_below d0ba SW.1, cell_below d0ba SW.2.1, cell_below d0ba SW.2.2.1, cell_below d0ba SW.2.2.2.1, cell_below d0ba SW.2.2.2.2⟩) ?_
            clear hK K
            refine wpSeqP_step (fun K hK => ?_)
            go_simp
            refine (sum_two (b := W.heap.size) (x := f2) (y := y2) (by simp [go_sem]) (by simp [go_sem]) (by omega) (by omega)).mono ?_
            rintro _ _ ⟨rfl, rfl⟩
            refine hK.out _ _ (fun _ => ⟨cell_below d0ba SW.1, cell_below d0ba SW.2.1, cell_below d0ba SW.2.2.1, cell_below d0ba SW.2.2.2.1, cell_below d0ba SW.2.2.2.2⟩) ?_
            clear hK K
            refine wpSeqP_step (fun K hK => ?_)
            go_simp
            refine hK.out _ _ (fun _ => ⟨cell_below d0ba SW.1, cell_below d0ba SW.2.1, cell_below d0ba SW.2.2.1, cell_below d0ba SW.2.2.2.1, cell_below d0ba SW.2.2.2.2⟩) ?_
            clear hK K
            refine wpSeqP_step (fun K hK => ?_)
            go_simp
            refine hK.out _ _ (fun _ => ⟨cell_below d0ba SW.1, cell_below d0ba SW.2.1, cell_below d0ba SW.2.2.1, cell_below d0ba SW.2.2.2.1, cell_below d0ba SW.2.2.2.2⟩) ?_
            clear hK K
            refine wpSeqP_name (fun W9 => Below W.heap.size W W9) d0ba (fun W9 h9 => ?_)
            have z0 := cell_below h9 SW.2.1
            have z1 := cell_below h9 SW.2.2.1
            have z2 : W9.frozen? ⟨w1.heap.size, jx * 2, none⟩ = false := by rw [h9.frozen (p := ⟨w1.heap.size, jx * 2, none⟩) hou.lt]; exact hou.frozen _
            have z3 : W9.frozen? ⟨w1.heap.size, jx * 2 + 1, none⟩ = false := by rw [h9.frozen (p := ⟨w1.heap.size, jx * 2 + 1, none⟩) hou.lt]; exact hou.frozen _
            refine wpSeqP_step (fun K hK => ?_)
            go_simp
            refine hK.out _ _ (fun h => by cases h) ?_
            refine wpSeqP_nil ?_
            exact fin _ h9
    case done =>
      rintro D ys W hD rfl ⟨⟨⟨hbx, hou⟩, hbw⟩, hsW, hmW⟩ hK
      gi_wp2
      refine ⟨⟨k + 1, D :: ds, _, _, _, _, _, _, _, _, ⟨by omega, hbw, hbx, hou.congr fun c hc => ?_, ?_⟩, rfl⟩, ?_⟩
      · rw [addR_ups _ _ (Nat.le_refl _), if_pos (by omega)]
        simp only [boundK, hs, Option.getD_some]
      · refine ⟨List.nodup_cons.2 ⟨fun hm => ?_, hmk.1⟩, fun d hd => ?_⟩
        · have h1 := (Array.getElem?_eq_some_iff.1 (hmk.2 D hm).2).1
          have h2 := hbW.size
          omega
        · rcases List.mem_cons.1 hd with rfl | hd
          · exact ⟨by have := hbW.size; omega, hK⟩
          · exact hmW.2 d hd
      · simp [intOf]
        omega
    case stop =>
      rintro D c pre W _ _ h _
      exact h.elim
  · obtain rfl : k = ss.length := by omega
    have hbc := hbox.cell
    gi_wp2
    refine leaves_marks w.heap.size ds wr hmk (fun W' hb' hk' => ⟨_, results_tmp2 rfl _ _ _, w1.heap.size, rfl, by omega, ?_, hbr.trans hb'⟩)
    obtain ⟨cur, h1, h2, h3⟩ := hor
    exact ⟨cur, hk' _ _ h1 rfl, h2, h3⟩
end Go.Proofs.Ytobeffjdfhkjeaa
