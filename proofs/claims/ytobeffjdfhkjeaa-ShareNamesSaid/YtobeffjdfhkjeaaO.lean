import Derived.Test.YtobeffjdfhkjeaaL
import Derived.Test.YtobeffjdfhkjeaaW3
import Derived.Laws.ResultCell
set_option linter.unusedVariables false
set_option linter.unusedSimpArgs false
namespace Go.Proofs.Ytobeffjdfhkjeaa
open Go Go.Proofs Go.RowKit

theorem info86 : (Try.prog.info? 86).map (fun i => (i.zero, i.size, i.bytes)) = some (some (.agg #[.int .i64 0, .int .i64 0, .int .i64 0, .slice none 0 0]), 4, 48) := by kernel_rfl

/-- Strata in cells of our own. -/
def StrataOwn (w : World) (base : Nat) (xs : List Value) (ss : List Strat) : Prop :=
  xs.length = ss.length * 4 ∧ ∀ (j : Nat) (s : Strat), ss[j]? = some s → xs[j * 4]? = some (.int .i64 s.coins) ∧ xs[j * 4 + 1]? = some (.int .i64 s.lo) ∧ xs[j * 4 + 2]? = some (.int .i64 s.hi) ∧
    ∃ u, xs[j * 4 + 3]? = some u ∧ w.ownsRow base 3 1 u s.seen.length (s.seen.map (.int .i64))

theorem StrataOwn.kept {w w' : World} {base base' : Nat} {us : List Value} {ss : List Strat} {v : Value} {e : TypeId} {n : Nat} {xs : List Value} {size : Nat} (h : StrataOwn w base us ss) (hv : w.ownsRow base' e size v n xs) (hne : e ≠ 3)
    (hg : w.grownBy w' v.ownBlock) : StrataOwn w' base us ss :=
  ⟨h.1, fun j l hl => by
    obtain ⟨a, b, c, u, h1, h2⟩ := h.2 j l hl
    exact ⟨a, b, c, u, h1, h2.kept hg (own_apart h2 hv (Ne.symm hne))⟩⟩
theorem StrataOwn.below {w w' : World} {base : Nat} {us : List Value} {ss : List Strat} (h : StrataOwn w base us ss) (hb : Below w.heap.size w w') : StrataOwn w' base us ss :=
  ⟨h.1, fun j l hl => by
    obtain ⟨a, b, c, u, h1, h2⟩ := h.2 j l hl
    exact ⟨a, b, c, u, h1, own_below h2 hb⟩⟩
theorem StrataOwn.snoc {w : World} {base : Nat} {us : List Value} {ss : List Strat} {u : Value} {s : Strat} (h : StrataOwn w base us ss) (hu : w.ownsRow base 3 1 u s.seen.length (s.seen.map (.int .i64))) :
    StrataOwn w base (us ++ [.int .i64 s.coins, .int .i64 s.lo, .int .i64 s.hi, u]) (ss ++ [s]) := by
  refine ⟨by simp [h.1]; omega, fun j l' hl => ?_⟩
  have hlen := h.1
  rw [List.getElem?_append] at hl
  split at hl
  · rename_i hj
    obtain ⟨a, b, c, x, h1, h2⟩ := h.2 j l' hl
    exact ⟨by rw [List.getElem?_append_left (by omega)]; exact a, by rw [List.getElem?_append_left (by omega)]; exact b, by rw [List.getElem?_append_left (by omega)]; exact c, x,
      by rw [List.getElem?_append_left (by omega)]; exact h1, h2⟩
  · rename_i hj
    have e : j = ss.length := by
      have := (List.getElem?_eq_some_iff.1 hl).1
      simp at this
      omega
    subst e
    simp at hl
    subst hl
    refine ⟨?_, ?_, ?_, u, ?_, hu⟩
    · rw [List.getElem?_append_right (by omega), show ss.length * 4 - us.length = 0 from by omega]; rfl
    · rw [List.getElem?_append_right (by omega), show ss.length * 4 + 1 - us.length = 1 from by omega]; rfl
    · rw [List.getElem?_append_right (by omega), show ss.length * 4 + 2 - us.length = 2 from by omega]; rfl
    · rw [List.getElem?_append_right (by omega), show ss.length * 4 + 3 - us.length = 3 from by omega]; rfl

theorem StrataOwn.set {w : World} {base : Nat} {us : List Value} {ss : List Strat} (h : StrataOwn w base us ss) {a : Addr} (ha : a.block < base) (x : Value) : StrataOwn (w.setCell a x) base us ss :=
  ⟨h.1, fun j l hl => by
    obtain ⟨p, q, r, u, h1, h2⟩ := h.2 j l hl
    exact ⟨p, q, r, u, h1, ownsRow_setCell_below h2 ha x⟩⟩

theorem strata_of_own {w : World} {base base' : Nat} {e : TypeId} {v : Value} {n : Nat} {us : List Value} {ss : List Strat} (h : w.ownsRow base e 4 v n us) (hr : StrataOwn w base' us ss) : StrataAt w v ss := by
  have hn : ss.length = n := by have := hr.1; have := h.1; omega
  rcases h.2 with ⟨rfl, h0⟩ | ⟨g, cap, cur, rfl, _, hg, hc, hm, hs, ht⟩
  · have : ss.length = 0 := by omega
    exact ⟨none, 0, by rw [this], by omega, by simp [maxLen], fun hp => by omega⟩
  · refine ⟨some ⟨g, 0, none⟩, cap, by rw [hn], by omega, hm, fun hp => ⟨g, 0, rfl, fun k s hk => ?_⟩⟩
    obtain ⟨a, b, c, u, h1, h2⟩ := hr.2 k s hk
    have hk' := (List.getElem?_eq_some_iff.1 hk).1
    simp only [Nat.zero_add]
    exact ⟨u, nums_of_own h2, by rw [h.cellAt _ (by omega)]; exact a, by rw [h.cellAt _ (by omega)]; exact b, by rw [h.cellAt _ (by omega)]; exact c, by rw [h.cellAt _ (by omega)]; exact h1⟩

theorem step_append_src {P : Program} (w : World) {ops : Array Oper} {o : Oper} {a : Act} {K : Act → World → Prop} {Q : Exit → Act → World → Prop} {E : Prop} (hgd : o.guard = none) (s x : Operand) (t : TypeId)
    (ho : o.op = .call { callee := .builtin .append, args := #[s, x], argTypes := #[t, t] })
    (base : Nat) (e : TypeId) (i : TypeInfo) (z : Value) (size bytes : Nat) (ht : P.underlying t = some (.slice e)) (hi : P.info? e = some i) (hz : i.zero = some z)
    (hsize : i.size = size) (hby : i.bytes = bytes) (hzs : z.cells.size = size) (hsz : 0 < size)
    (v : Value) (n : Nat) (xs : List Value) (hs : a.eval s = v) (hown : w.ownsRow base e size v n xs)
    (A : Option Addr) (m c : Nat) (news : List Value) (hx : a.eval x = .slice A m c) (hr : Src w A m size news) (h1 : ∀ u ∈ news, u.oneCell' = true)
    (h63 : n + m ≤ maxLen) (hbytes : (n + m) * bytes ≤ 140737488355328) (hbase : base ≤ w.heap.size)
    (h : ∀ A' c' w', w'.ownsRow base e size (.slice A' (n + m) c') (n + m) (xs ++ news) → w.grownBy w' v.ownBlock → K (a.put o.dst (.slice A' (n + m) c')) w') :
    if Region.wanted o (yielded ops a.tmps) = true then Oper.wp P o a w K Q else E := by
  have hw : Region.wanted o (yielded ops a.tmps) = true := by simp [Region.wanted, hgd]
  rw [if_pos hw]
  refine wp_append_src w s x t ho base e i z size bytes ht hi hz hsize hby hzs hsz v n xs hs hown A m c news hx hr h1 h63 hbytes hbase fun v' w' h2 h3 _ => ?_
  obtain ⟨A', c', rfl⟩ := own_form h2
  exact h A' c' w' h2 h3

/-- What an append onto an old row leaves alone: what lies below the row's base, and what is younger than the row. -/
theorem far_cells {w1 w2 wr : World} {base base' : Nat} {e e' : TypeId} {size size' n n' : Nat} {v : Value} {xs xs' : List Value} {o : Obj} (hg : (w1.alloc o).grownBy w2 v.ownBlock) (h1 : w1.ownsRow base e size v n xs) (h : wr.ownsRow base' e' size' v n' xs')
    (p : Addr) (u : Value) (hp : p.block < base' ∨ wr.heap.size ≤ p.block) (hc : w1.cell? p = some u) : w2.cell? p = some u := by
  have hlt := World.block_lt_of_cell? _ _ hc
  refine hg.cell (a := p) (by rw [World.cell?_alloc_lt _ _ _ hlt]; exact hc) ?_
  intro e
  have := h.lt _ e.symm
  omega

/-- A pool of the program's. -/
def GivesPool (w : World) (n : Int) (ss : List Strat) (e : Ending) (w' : World) : Prop :=
  ∃ v, e = .returned (.agg #[.int .i64 n, v]) ∧ StrataAt w' v ss ∧ Below w.heap.size w w'

set_option maxRecDepth 100000 in
set_option maxHeartbeats 1600000 in
theorem Pool_any (n : Int) (v : Value) (ss : List Strat) (w : World) (hv : StrataAt w v ss) (hl : ss.length ≤ 1000) (hll : ∀ (j : Nat) (s : Strat), ss[j]? = some s → s.seen.length ≤ 1000) :
    Calls Try.prog 20 #[.agg #[.int .i64 n, v]] w (GivesPool w n ss) := by
  obtain ⟨A, c, rfl, hc, hm⟩ := hv.form
  obtain ⟨i0, hi0, hz0, hz1, hz2⟩ := info_parts info86
  have Hll := Lib.hid hll
  clear hll
  go_enter Try.func20, Try.ntmps20
  go_wp2
  go_loopw [4] (fun i wr => ∃ (k : Nat) (A' : Option Addr) (c' : Nat) (us : List Value), k ≤ ss.length ∧ i = .int .i64 k ∧ Below w.heap.size w wr ∧ w.heap.size + 2 < wr.heap.size ∧ wr.cell? ⟨w.heap.size, 1, none⟩ = some (.slice A ss.length c) ∧
      wr.cell? ⟨w.heap.size + 1 + 1, 0, none⟩ = some (.int .i64 n) ∧ wr.cell? ⟨w.heap.size + 1 + 1, 1, none⟩ = some (.slice A' k c') ∧ wr.frozen? ⟨w.heap.size + 1 + 1, 1, none⟩ = false ∧
      wr.cell? ⟨w.heap.size + 1, 0, none⟩ = some (.int .i64 0) ∧ wr.cell? ⟨w.heap.size + 1, 1, none⟩ = some (.slice none 0 0) ∧ wr.frozen? ⟨w.heap.size + 1, 0, none⟩ = false ∧ wr.frozen? ⟨w.heap.size + 1, 1, none⟩ = false ∧
      wr.ownsRow (w.heap.size + 3) 86 4 (.slice A' k c') k us ∧ StrataOwn wr (w.heap.size + 3) us (ss.take k)) (fun i wr => ss.length - (intOf i).toNat)
  case atStart =>
    refine ⟨0, none, 0, [], by omega, rfl, ?_, by simp, ?_, ?_, ?_, ?_, ?_, ?_, ?_, ?_, World.ownsRow_nil _ _ _ _, ⟨by simp, by intro j l h; simp at h⟩⟩
    · exact (((Below.refl _ _).alloc (Nat.le_refl _) _).alloc (by simp) _).alloc (by simp; omega) _
    all_goals simp [go_sem]
  case round =>
    obtain ⟨k, A', c', us, hk, rfl, hb, hsz, f1, g0, g1, gf, r0, r1, rf0, rf1, hown, hso⟩ := hrel
    have Hso := Lib.hid hso
    clear hso
    by_cases hlt : k < ss.length
    · obtain ⟨b, o, s, y, rfl, hs, hy, e0, e1, e2, e3, hby⟩ := (hv.below hb).at_ hlt
      have hsl := Hll.out k s hs
      have Hs := Lib.hid hs
      clear hs
      obtain ⟨B, C, rfl, hC, hC'⟩ := hy.form
      go_wp2_with fail
      refine wp_name (fun W => Below wr.heap.size wr W ∧ wr.heap.size < W.heap.size ∧ W.cell? ⟨wr.heap.size, 0, none⟩ = some (.int .i64 s.coins) ∧ W.cell? ⟨wr.heap.size, 1, none⟩ = some (.int .i64 s.lo) ∧
        W.cell? ⟨wr.heap.size, 2, none⟩ = some (.int .i64 s.hi) ∧ W.cell? ⟨wr.heap.size, 3, none⟩ = some (.slice B s.seen.length C)) ?_ (fun W hF => ?_)
      · exact ⟨(Below.refl _ _).alloc (Nat.le_refl _) _, by simp, by simp [go_sem], by simp [go_sem], by simp [go_sem], by simp [go_sem]⟩
      obtain ⟨hW, hWs, c0, c1, c2, c3⟩ := hF
      have hyW := hy.below hW
      have gW := cell_below hW g1
      have ownW := own_below hown hW
      have bW : w.heap.size + 1 + 1 < W.heap.size := by omega
      have hfW : W.frozen? ⟨w.heap.size + 1 + 1, 1, none⟩ = false := by rw [hW.frozen (p := ⟨w.heap.size + 1 + 1, 1, none⟩) (by simp; omega)]; exact gf
      clear e0 e1 e2 e3
      refine wp_region_noPanic ?_
      refine wp_region_fs 13 (fun j => j != 18) (fun w' => w'.cell? ⟨w.heap.size + 1 + 1, 1, none⟩ = some (.slice A' k c') ∧ w'.cell? ⟨wr.heap.size, 0, none⟩ = some (.int .i64 s.coins) ∧ w'.cell? ⟨wr.heap.size, 1, none⟩ = some (.int .i64 s.lo) ∧
          w'.cell? ⟨wr.heap.size, 2, none⟩ = some (.int .i64 s.hi) ∧ w'.cell? ⟨wr.heap.size, 3, none⟩ = some (.slice B s.seen.length C)) (by kernel_rfl) (by kernel_rfl) (fun _ _ _ _ _ h => h) ⟨gW, c0, c1, c2, c3⟩ (fun hne => ?_)
      have m0 := fun x : Meets (fun w' => w'.cell? ⟨w.heap.size + 1 + 1, 1, none⟩ = some (.slice A' k c') ∧ w'.cell? ⟨wr.heap.size, 0, none⟩ = some (.int .i64 s.coins) ∧ w'.cell? ⟨wr.heap.size, 1, none⟩ = some (.int .i64 s.lo) ∧
          w'.cell? ⟨wr.heap.size, 2, none⟩ = some (.int .i64 s.hi) ∧ w'.cell? ⟨wr.heap.size, 3, none⟩ = some (.slice B s.seen.length C)) => x.property
      simp only [List.take_succ_cons, List.take_zero, List.drop_succ_cons, List.drop_zero]
      repeat (go_big_quiet_step (fail))
      refine wpQuiet_nil ?_
      clear m0 hne
      have hyD : NumsAt .i64 W.drew (.slice B s.seen.length C) s.seen := hyW
      refine wpSeqF_step (fun K hK => ?_)
      go_simp
      refine (list_any _ s.seen _ hyD (by omega)).mono ?_
      rintro e w1 ⟨A1, C1, rfl, hox, hbd⟩
      have hb1 : Below W.heap.size W w1 := (Below.refl W.heap.size W).drew.trans hbd
      have hown1 := own_below ownW hb1
      have S1 := And.intro (cell_below hb1 gW) (And.intro (cell_below hb1 c0) (And.intro (cell_below hb1 c1) (And.intro (cell_below hb1 c2) (cell_below hb1 c3))))
      refine hK.out _ _ (fun _ => S1) ?_
      clear hK K
      refine wpSeqF_step (fun K hK => ?_)
      go_simp
      refine hK.out _ _ (fun _ => S1) ?_
      clear hK K
      refine wpSeqF_step (fun K hK => ?_)
      go_simp
      have hba : Below w1.heap.size w1 (w1.alloc (.cells #[.int .i64 s.coins, .int .i64 s.lo, .int .i64 s.hi, .slice A1 s.seen.length C1] 86)) := (Below.refl _ _).alloc (Nat.le_refl _) _
      refine hK.out _ _ (fun _ => ⟨cell_below hba S1.1, cell_below hba S1.2.1, cell_below hba S1.2.2.1, cell_below hba S1.2.2.2.1, cell_below hba S1.2.2.2.2⟩) ?_
      clear hK K
      refine wpSeqF_step (fun K hK => ?_)
      refine step_append_src _ rfl (.tmp 22) (.tmp 36) 31 rfl (w.heap.size + 3) 86 i0 _ 4 48 Try.underlying31 hi0 hz0 hz1 hz2 rfl (by omega) (.slice A' k c') k us rfl (hown1.alloc _) (some ⟨w1.heap.size, 0, none⟩) 1 1 [.int .i64 s.coins, .int .i64 s.lo, .int .i64 s.hi, .slice A1 s.seen.length C1] rfl
        (src_new w1 [.int .i64 s.coins, .int .i64 s.lo, .int .i64 s.hi, .slice A1 s.seen.length C1] 86 1 4 rfl) (by simp [Value.oneCell']) (by simp [maxLen]; omega) (by omega) (by have := hb1.size; simp; omega) ?_
      intro A2 c2' w2 hown2 hg2
      have P2 := far_cells hg2 hown1 hown
      have S2 := And.intro (P2 ⟨w.heap.size + 1 + 1, 1, none⟩ _ (by simp only; omega) (cell_below hb1 gW)) (And.intro (P2 ⟨wr.heap.size, 0, none⟩ _ (by simp) (cell_below hb1 c0)) (And.intro (P2 ⟨wr.heap.size, 1, none⟩ _ (by simp) (cell_below hb1 c1)) (And.intro (P2 ⟨wr.heap.size, 2, none⟩ _ (by simp) (cell_below hb1 c2)) (P2 ⟨wr.heap.size, 3, none⟩ _ (by simp) (cell_below hb1 c3)))))
      refine hK.out _ _ (fun _ => S2) ?_
      clear hK K
      refine wpSeqF_step (fun K hK => ?_)
      go_simp
      refine hK.out _ _ (fun _ => S2) ?_
      clear hK K
      have F2 : w2.frozen? ⟨w.heap.size + 1 + 1, 1, none⟩ = false := by
        have e1 : (w1.alloc (.cells #[.int .i64 s.coins, .int .i64 s.lo, .int .i64 s.hi, .slice A1 s.seen.length C1] 86)).frozen? ⟨w.heap.size + 1 + 1, 1, none⟩ = false := by
          rw [hba.frozen (p := ⟨w.heap.size + 1 + 1, 1, none⟩) (by have := hb1.size; simp; omega), hb1.frozen (p := ⟨w.heap.size + 1 + 1, 1, none⟩) (by simp; omega)]
          exact hfW
        rw [World.frozen?_of_block (w := w1.alloc (.cells #[.int .i64 s.coins, .int .i64 s.lo, .int .i64 s.hi, .slice A1 s.seen.length C1] 86)) (hg2.block _ (by have := hb1.size; simp; omega) (fun e => by have q := hown.lt _ e.symm; simp only at q; omega))]
        exact e1
      refine wpSeqF_step (fun K hK => ?_)
      go_simp
      refine hK.out _ _ (fun h => by cases h) ?_
      clear hK K
      refine wpSeqF_nil ?_
      refine NoPanic.normal ?_
      go_wp2
      have hba2 : Below w.heap.size w (w1.alloc (.cells #[.int .i64 s.coins, .int .i64 s.lo, .int .i64 s.hi, .slice A1 s.seen.length C1] 86)) :=
        ((hb.trans (hW.mono hb.size)).trans (hb1.mono (by have := hb.size; have := hW.size; omega))).trans (hba.mono (by have := hb.size; have := hW.size; have := hb1.size; omega))
      have hb3 : Below w.heap.size w w2 := below_grown hba2 hg2 hba2.size (hown1.alloc _) (by omega)
      have hsz2 : w1.heap.size + 1 ≤ w2.heap.size := by have := hg2.size; simpa using this
      have keepc : ∀ (p : Addr) (u : Value), p.block < w.heap.size + 3 → p ≠ ⟨w.heap.size + 1 + 1, 1, none⟩ → wr.cell? p = some u → (w2.setCell ⟨w.heap.size + 1 + 1, 1, none⟩ (.slice A2 (k + 1) c2')).cell? p = some u := by
        intro p u hp hne hc
        rw [World.cell?_setCell_other _ _ _ _ (Ne.symm hne)]
        exact P2 p u (Or.inl hp) (cell_below hb1 (cell_below hW hc))
      have keepf : ∀ (p : Addr), p.block < w.heap.size + 3 → wr.frozen? p = false → (w2.setCell ⟨w.heap.size + 1 + 1, 1, none⟩ (.slice A2 (k + 1) c2')).frozen? p = false := by
        intro p hp hc
        rw [World.frozen?_setCell]
        have e1 : (w1.alloc (.cells #[.int .i64 s.coins, .int .i64 s.lo, .int .i64 s.hi, .slice A1 s.seen.length C1] 86)).frozen? p = false := by
          rw [hba.frozen (p := p) (by have := hb1.size; omega), hb1.frozen (p := p) (by omega), hW.frozen (p := p) (by omega)]
          exact hc
        rw [World.frozen?_of_block (w := w1.alloc (.cells #[.int .i64 s.coins, .int .i64 s.lo, .int .i64 s.hi, .slice A1 s.seen.length C1] 86)) (hg2.block _ (by have := hb1.size; simp; omega) (fun e => by have q := hown.lt _ e.symm; omega))]
        exact e1
      go_roundw
      case rel =>
        refine ⟨k + 1, A2, c2', _, by omega, by go_num, hb3.setCell (p := ⟨w.heap.size + 1 + 1, 1, none⟩) (by simp only; omega) _, by have := hb1.size; simp; omega, keepc _ _ (by simp only; omega) (by simp) f1, keepc _ _ (by simp only; omega) (by simp) g0,
          World.cell?_setCell_same' _ _ _ (by rw [S2.1]; rfl), keepf _ (by simp only; omega) gf, keepc _ _ (by simp only; omega) (by simp) r0, keepc _ _ (by simp only; omega) (by simp) r1, keepf _ (by simp only; omega) rf0, keepf _ (by simp only; omega) rf1,
          ownsRow_setCell_below hown2 (by simp only; omega) _, ?_⟩
        rw [List.take_add_one, Hs.out]
        have h1 : StrataOwn (w1.alloc (.cells #[.int .i64 s.coins, .int .i64 s.lo, .int .i64 s.hi, .slice A1 s.seen.length C1] 86)) (w.heap.size + 3) us (ss.take k) := ((Hso.out.below hW).below hb1).below hba
        have h2 := h1.kept (hown1.alloc _) (by decide) hg2
        have ho2 : w2.ownsRow (w.heap.size + 3) 3 1 (.slice A1 s.seen.length C1) s.seen.length (s.seen.map (.int .i64)) :=
          own_mono (((hox.alloc _).kept hg2 (own_apart hox hown1 (by decide)))) (by show w.heap.size + 3 ≤ W.heap.size; omega)
        exact (h2.snoc ho2).set (by simp only; omega) _
      case measure => simp [intOf]; omega
    · obtain rfl : k = ss.length := by omega
      rw [List.take_length] at Hso
      go_wp2
      refine bodyPost_ret (v := .agg #[.int .i64 n, .slice A' ss.length c']) (by simp [results, Try.results20, go_sem, g0, g1, r0, r1, rf0, rf1]) rfl ⟨_, rfl, ?_, ?_⟩
      · exact strata_of_own (ownsRow_setCell_below (ownsRow_setCell_below hown (by simp only; omega) _) (by simp only; omega) _) ((Hso.out.set (by simp only; omega) _).set (by simp only; omega) _)
      · exact (hb.setCell (p := ⟨w.heap.size + 1, 0, none⟩) (by simp only; omega) _).setCell (p := ⟨w.heap.size + 1, 1, none⟩) (by simp only; omega) _
end Go.Proofs.Ytobeffjdfhkjeaa
