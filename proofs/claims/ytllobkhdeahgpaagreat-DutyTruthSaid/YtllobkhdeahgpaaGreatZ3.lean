import Derived.Test.YtllobkhdeahgpaaGreatZ2
set_option linter.unusedVariables false
set_option linter.unusedSimpArgs false
namespace Go.Proofs.YtllobkhdeahgpaaGreat
open Go Go.Proofs Go.RowKit

/-! ### Before, Pieces -/
def prC (p : Pc) : List Value := [.int .i64 (p.b : Int), .int .i64 (p.fr : Int), .int .i64 (p.to : Int), .int .i64 (p.first : Int)]
def prCells (ps : List Pc) : List Value := ps.flatMap prC
theorem prCells_snoc (ps : List Pc) (p : Pc) : prCells (ps ++ [p]) = prCells ps ++ prC p := by simp [prCells]
theorem prCells_len (ps : List Pc) : (prCells ps).length = ps.length * 4 := flat_length (f := prC) (n := 4) (fun _ => rfl) ps
theorem prCells_get {ps : List Pc} {k j : Nat} {p : Pc} (h : ps[k]? = some p) (hj : j < 4) : (prCells ps)[k * 4 + j]? = (prC p)[j]? := flat_get (f := prC) (n := 4) (fun _ => rfl) h hj
def PcsAt (w : World) (v : Value) (ps : List Pc) : Prop :=
  ∃ A c, v = .slice A ps.length c ∧ ps.length ≤ c ∧ c ≤ maxLen ∧ (0 < ps.length → ∃ b o, A = some ⟨b, o, none⟩ ∧ ∀ k p, ps[k]? = some p → ∀ j, j < 4 → w.cell? ⟨b, o + k * 4 + j, none⟩ = (prC p)[j]?)
theorem PcsAt.below {w w' : World} {v : Value} {ps : List Pc} (h : PcsAt w v ps) (hb : Below w.heap.size w w') : PcsAt w' v ps := by
  obtain ⟨A, c, h1, h2, h3, h4⟩ := h
  refine ⟨A, c, h1, h2, h3, fun hp => ?_⟩
  obtain ⟨b, o, e, hc⟩ := h4 hp
  refine ⟨b, o, e, fun k p hk j hj => ?_⟩
  have h5 := hc k p hk j hj
  have hs : ∃ x, (prC p)[j]? = some x := ⟨_, List.getElem?_eq_getElem (by simpa [prC] using hj)⟩
  obtain ⟨x, hx⟩ := hs
  rw [hx] at h5 ⊢
  exact cell_below hb h5
theorem PcsAt.form {w : World} {v : Value} {ps : List Pc} (h : PcsAt w v ps) : ∃ A c, v = .slice A ps.length c ∧ ps.length ≤ c ∧ c ≤ 9223372036854775807 := by
  obtain ⟨A, c, h1, h2, h3, _⟩ := h
  exact ⟨A, c, h1, h2, h3⟩
theorem PcsAt.at_ {w : World} {A : Option Addr} {n c : Nat} {ps : List Pc} (h : PcsAt w (.slice A n c) ps) {k : Nat} (hk : k < ps.length) :
    ∃ b o p, A = some ⟨b, o, none⟩ ∧ ps[k]? = some p ∧ w.cell? ⟨b, o + k * 4, none⟩ = some (.int .i64 (p.b : Int)) ∧ w.cell? ⟨b, o + k * 4 + 1, none⟩ = some (.int .i64 (p.fr : Int)) ∧ w.cell? ⟨b, o + k * 4 + 2, none⟩ = some (.int .i64 (p.to : Int)) ∧ w.cell? ⟨b, o + k * 4 + 3, none⟩ = some (.int .i64 (p.first : Int)) ∧ b < w.heap.size := by
  obtain ⟨A', c', e, _, _, h4⟩ := h
  cases e
  obtain ⟨b, o, e, hc⟩ := h4 (by omega)
  have hp := List.getElem?_eq_getElem hk
  have h0 := hc k _ hp 0 (by omega)
  exact ⟨b, o, _, e, hp, h0, hc k _ hp 1 (by omega), hc k _ hp 2 (by omega), hc k _ hp 3 (by omega), World.block_lt_of_cell? _ _ h0⟩
theorem pcs_of_own {w : World} {v : Value} {base : Nat} {e : TypeId} {n : Nat} {ps : List Pc} (h : w.ownsRow base e 4 v n (prCells ps)) : PcsAt w v ps := by
  have hlen := prCells_len ps
  have hn : ps.length = n := by have := h.1; omega
  rcases h.2 with ⟨rfl, h0⟩ | ⟨g, cap, cur, rfl, _, hg, hc, hm, hs, ht⟩
  · have : ps.length = 0 := by omega
    exact ⟨none, 0, by rw [this], by omega, by simp [maxLen], fun hp => by omega⟩
  · refine ⟨some ⟨g, 0, none⟩, cap, by rw [hn], by omega, hm, fun hp => ⟨g, 0, rfl, fun k s hk j hj => ?_⟩⟩
    have hk' := (List.getElem?_eq_some_iff.1 hk).1
    rw [Nat.zero_add, h.cellAt (k * 4 + j) (by omega)]
    exact prCells_get hk hj
set_option maxRecDepth 100000 in
set_option maxHeartbeats 800000 in
theorem Before_any (d : DDay) (u z : Value) (p q : Pc) (w : World) (hda : DayAt w u z d) (h1 : InDay d p.b p.fr) (h2 : InDay d q.b q.fr) :
    Calls Tryz.prog 76 #[.agg #[.int .i64 d.law.piece, .int .i64 d.law.drive, .int .i64 d.law.spread, .int .i64 d.law.brk, .int .i64 d.law.on, .int .i64 d.law.off, .int .i64 d.law.least, .int .i64 d.law.pieces, u, z], .agg #[.int .i64 (p.b : Int), .int .i64 (p.fr : Int), .int .i64 (p.to : Int), .int .i64 (p.first : Int)], .agg #[.int .i64 (q.b : Int), .int .i64 (q.fr : Int), .int .i64 (q.to : Int), .int .i64 (q.first : Int)]] w (Gives w (.bool (bef d.blocks p q))) := by
  obtain ⟨A1, c1, rfl, _, _⟩ := hda.blocks.form
  obtain ⟨A2, c2, rfl, _, _⟩ := hda.walk.form
  have hw0 : Below w.heap.size w (((w.alloc (.cells #[.int .i64 d.law.piece, .int .i64 d.law.drive, .int .i64 d.law.spread, .int .i64 d.law.brk, .int .i64 d.law.on, .int .i64 d.law.off, .int .i64 d.law.least, .int .i64 d.law.pieces, .slice A1 d.blocks.length c1, .slice A2 d.walk.length c2] 27 (0, 0))).alloc (.cells #[.int .i64 (p.b : Int), .int .i64 (p.fr : Int), .int .i64 (p.to : Int), .int .i64 (p.first : Int)] 125)).alloc (.cells #[.int .i64 (q.b : Int), .int .i64 (q.fr : Int), .int .i64 (q.to : Int), .int .i64 (q.first : Int)] 125)) := ((Below.refl _ _).alloc (Nat.le_refl _) _ |>.alloc (by simp) _).alloc (by simp; omega) _
  have Hda := Lib.hid hda
  have Hbef := Lib.hid (show bef d.blocks p q = (decide (loT d.blocks p.b p.fr < loT d.blocks q.b q.fr) || (decide (loT d.blocks p.b p.fr = loT d.blocks q.b q.fr) && decide (p.first < q.first))) from rfl)
  clear hda
  go_enter Tryz.func76, Tryz.ntmps76
  go_wp2_with fail
  refine wp_name (fun W => Below w.heap.size w W ∧ W.heap[w.heap.size]? = some (.cells #[.int .i64 d.law.piece, .int .i64 d.law.drive, .int .i64 d.law.spread, .int .i64 d.law.brk, .int .i64 d.law.on, .int .i64 d.law.off, .int .i64 d.law.least, .int .i64 d.law.pieces, .slice A1 d.blocks.length c1, .slice A2 d.walk.length c2] 27 (0, 0)) ∧ W.heap[w.heap.size + 1]? = some (.cells #[.int .i64 (p.b : Int), .int .i64 (p.fr : Int), .int .i64 (p.to : Int), .int .i64 (p.first : Int)] 125 (0, 0)) ∧ W.heap[w.heap.size + 1 + 1]? = some (.cells #[.int .i64 (q.b : Int), .int .i64 (q.fr : Int), .int .i64 (q.to : Int), .int .i64 (q.first : Int)] 125 (0, 0))) ?_ (fun W hW => ?_)
  · refine ⟨hw0, ?_, ?_, ?_⟩
    · exact (Below.heap_alloc _ _ _ (by simp; omega)).trans ((Below.heap_alloc _ _ _ (by simp)).trans (heap_alloc_new w _))
    · exact (Below.heap_alloc _ _ _ (by simp)).trans (heap_alloc2_new w _ _)
    · have h := heap_alloc_new ((w.alloc (.cells #[.int .i64 d.law.piece, .int .i64 d.law.drive, .int .i64 d.law.spread, .int .i64 d.law.brk, .int .i64 d.law.on, .int .i64 d.law.off, .int .i64 d.law.least, .int .i64 d.law.pieces, .slice A1 d.blocks.length c1, .slice A2 d.walk.length c2] 27 (0, 0))).alloc (.cells #[.int .i64 (p.b : Int), .int .i64 (p.fr : Int), .int .i64 (p.to : Int), .int .i64 (p.first : Int)] 125)) (.cells #[.int .i64 (q.b : Int), .int .i64 (q.fr : Int), .int .i64 (q.to : Int), .int .i64 (q.first : Int)] 125)
      simpa using h
  obtain ⟨hbW, g0, g1, g2⟩ := hW
  have Hg1 := Lib.hid g1
  have Hg2 := Lib.hid g2
  have hdo := Hda.out.below hbW
  have f0 := Later.cell (w := W) (box_cells g0 0)
  have f1 := Later.cell (w := W) (box_cells g0 1)
  have f2 := Later.cell (w := W) (box_cells g0 2)
  have f3 := Later.cell (w := W) (box_cells g0 3)
  have f4 := Later.cell (w := W) (box_cells g0 4)
  have f5 := Later.cell (w := W) (box_cells g0 5)
  have f6 := Later.cell (w := W) (box_cells g0 6)
  have f7 := Later.cell (w := W) (box_cells g0 7)
  have f8 := Later.cell (w := W) (box_cells g0 8)
  have f9 := Later.cell (w := W) (box_cells g0 9)
  have p0 := Later.cell (w := W) (box_cells g1 0)
  have q0 := Later.cell (w := W) (box_cells g2 0)
  have p1 := Later.cell (w := W) (box_cells g1 1)
  have q1 := Later.cell (w := W) (box_cells g2 1)
  have p2 := Later.cell (w := W) (box_cells g1 2)
  have q2 := Later.cell (w := W) (box_cells g2 2)
  have p3 := Later.cell (w := W) (box_cells g1 3)
  have q3 := Later.cell (w := W) (box_cells g2 3)
  clear g0 g1 g2 hw0
  refine wp_region_later (by kernel_rfl) (by kernel_rfl) ?_
  repeat (go_big_quiet_step ((go_at_call 74; exact Later.call (Lo_any d _ _ _ _ _ (hdo.below (Subtype.property _)) (by assumption)))))
  refine wpQuiet_nil ?_
  intro w2 hx2
  have hb2 := Later.out hx2
  clear hx2 f0 f1 f2 f3 f4 f5 f6 f7 f8 f9 p0 q0 p1 q1 p2 q2 p3 q3
  have gp := box_cells (rd_box_step hb2 Hg1.out) 3
  have gq := box_cells (rd_box_step hb2 Hg2.out) 3
  have hw2 := hbW.trans (hb2.mono hbW.size)
  generalize loT d.blocks p.b p.fr = X at *
  generalize loT d.blocks q.b q.fr = Y at *
  by_cases he : X = Y
  · have hne : (X != Y) = false := by simp [he]
    have hfin := Hbef.out
    rw [decide_eq_false (by omega : ¬ X < Y), decide_eq_true he, Bool.false_or, Bool.true_and] at hfin
    have Hfin := Lib.hid hfin
    clear he hfin
    go_wp2
    go_ret
    exact gives_bool (by rw [Hfin.out]) hw2
  · have hne : (X != Y) = true := by simp [he]
    have hfin := Hbef.out
    rw [decide_eq_false he, Bool.false_and, Bool.or_false] at hfin
    have Hfin := Lib.hid hfin
    clear he hfin
    go_wp2
    go_ret
    exact gives_bool Hfin.out.symm hw2
end Go.Proofs.YtllobkhdeahgpaaGreat
