import Derived.Test.YtllobkhdeahgpaaY6
set_option linter.unusedVariables false
set_option linter.unusedSimpArgs false
namespace Go.Proofs.Ytllobkhdeahgpaa
open Go Go.Proofs Go.RowKit

/-! ### DutyEasier: plain -/
def easR (c : Int) (r : Rel) : Rel := ⟨r.place, min r.hi (r.lo + c), r.hi⟩
def easK (c : Int) (s : Nat) (l : List Rel) (m : Nat) : List Rel := l.mapIdx (fun i r => if s ≤ i ∧ i < m then easR c r else r)
theorem easK_len (c : Int) (s : Nat) (l : List Rel) (m : Nat) : (easK c s l m).length = l.length := by simp [easK]
theorem easK_at (c : Int) (s : Nat) (l : List Rel) (m i : Nat) : (easK c s l m)[i]? = (l[i]?).map (fun r => if s ≤ i ∧ i < m then easR c r else r) := by
  unfold easK; rw [List.getElem?_mapIdx]
theorem easK_start (c : Int) (s : Nat) (l : List Rel) : easK c s l s = l := by
  refine List.ext_getElem? fun i => ?_
  rw [easK_at]
  have : ¬ (s ≤ i ∧ i < s) := by omega
  simp only [if_neg this, Option.map_id']
theorem easK_get (c : Int) {s m : Nat} {l : List Rel} {r : Rel} (h : l[m]? = some r) : (easK c s l m)[m]? = some r := by
  rw [easK_at, h]
  have : ¬ (s ≤ m ∧ m < m) := by omega
  simp only [if_neg this, Option.map_some]
theorem easK_step (c : Int) {s m : Nat} {l : List Rel} {r : Rel} (h : l[m]? = some r) (hs : s ≤ m) : (easK c s l m).set m (easR c r) = easK c s l (m + 1) := by
  refine List.ext_getElem? fun i => ?_
  rw [List.getElem?_set, easK_len, easK_at, easK_at]
  by_cases e : m = i
  · subst e
    have hl := (List.getElem?_eq_some_iff.1 h).1
    have h1 : s ≤ m ∧ m < m + 1 := by omega
    simp only [if_true, if_pos hl, h, Option.map_some, if_pos h1]
  · rw [if_neg e]
    have h1 : (s ≤ i ∧ i < m) = (s ≤ i ∧ i < m + 1) := by
      apply propext; omega
    simp only [h1]
def easD (d : DDay) (b : Nat) (bl : List Rel) : DDay := ⟨d.law, d.blocks.set b bl, d.walk⟩
theorem rel_easK (c : Int) (s : Nat) (l : List Rel) (m i : Nat) (hc : 0 ≤ c) (hl : ∀ r ∈ l, r.lo ≤ r.hi) :
    ((easK c s l m)[i]?.getD Rel.none).place = (l[i]?.getD Rel.none).place ∧ ((easK c s l m)[i]?.getD Rel.none).hi = (l[i]?.getD Rel.none).hi ∧ (l[i]?.getD Rel.none).lo ≤ ((easK c s l m)[i]?.getD Rel.none).lo := by
  rw [easK_at]
  cases h : l[i]? with
  | none => simp
  | some r =>
    have := hl r (List.mem_of_getElem? h)
    simp only [Option.map_some, Option.getD_some]
    split
    · simp only [easR]; refine ⟨trivial, trivial, ?_⟩; omega
    · simp
theorem easier_block {d : DDay} {b : Nat} {l : List Rel} (c : Int) (s m : Nat) (hb : d.blocks[b]? = some l) (hc : 0 ≤ c) (hl : ∀ r ∈ l, r.lo ≤ r.hi) : EasierDay d (easD d b (easK c s l m)) := by
  have key : ∀ b' i, ((relAt (d.blocks.set b (easK c s l m)) b' i).place = (relAt d.blocks b' i).place ∧ (relAt (d.blocks.set b (easK c s l m)) b' i).hi = (relAt d.blocks b' i).hi ∧ (relAt d.blocks b' i).lo ≤ (relAt (d.blocks.set b (easK c s l m)) b' i).lo) := by
    intro b' i
    unfold relAt
    rw [List.getElem?_set]
    by_cases e : b = b'
    · subst e
      have hbl := (List.getElem?_eq_some_iff.1 hb).1
      rw [if_pos rfl, if_pos hbl, hb, Option.getD_some, Option.getD_some]
      exact rel_easK c s l m i hc hl
    · rw [if_neg e]; exact ⟨rfl, rfl, Int.le_refl _⟩
  refine ⟨?_, Int.le_refl _, Int.le_refl _, Int.le_refl _, Int.le_refl _, Int.le_refl _, Int.le_refl _, Int.le_refl _, Int.le_refl _, fun b i => (key b i).2.2, fun b i => by have := (key b i).2.1; unfold hiT easD; simp only; omega, fun b i => (key b i).1, fun a b => Int.le_refl _⟩
  refine List.ext_getElem? fun i => ?_
  simp only [easD]
  rw [List.getElem?_map, List.getElem?_map, List.getElem?_set]
  by_cases e : b = i
  · subst e
    have hbl := (List.getElem?_eq_some_iff.1 hb).1
    rw [if_pos rfl, if_pos hbl, hb, Option.map_some, Option.map_some, easK_len]
  · rw [if_neg e]
def walD (d : DDay) (r : Nat) (row : List Int) : DDay := ⟨d.law, d.blocks, d.walk.set r row⟩
theorem easier_walk {d : DDay} {r k : Nat} {row : List Int} {x y : Int} (hr : d.walk[r]? = some row) (hk : row[k]? = some y) (hx : x ≤ y) : EasierDay d (walD d r (row.set k x)) := by
  refine ⟨rfl, Int.le_refl _, Int.le_refl _, Int.le_refl _, Int.le_refl _, Int.le_refl _, Int.le_refl _, Int.le_refl _, Int.le_refl _, fun b i => Int.le_refl _, fun b i => Int.le_refl _, fun b i => rfl, fun a b => ?_⟩
  unfold walkAt walD
  simp only
  rw [List.getElem?_set]
  by_cases e : r = a.toNat
  · have hrl := (List.getElem?_eq_some_iff.1 hr).1
    rw [if_pos e, if_pos hrl, ← e, hr, Option.getD_some, Option.getD_some, List.getElem?_set]
    by_cases e2 : k = b.toNat
    · have hkl := (List.getElem?_eq_some_iff.1 hk).1
      rw [if_pos e2, if_pos hkl, ← e2, hk, Option.getD_some, Option.getD_some]
      exact hx
    · rw [if_neg e2]; exact Int.le_refl _
  · rw [if_neg e]; exact Int.le_refl _
def lawD (d : DDay) (l : DLaw) : DDay := ⟨l, d.blocks, d.walk⟩
theorem easier_law {d : DDay} {l : DLaw} (h : d.law.pieces ≤ l.pieces ∧ d.law.piece ≤ l.piece ∧ d.law.drive ≤ l.drive ∧ d.law.spread ≤ l.spread ∧ l.brk ≤ d.law.brk ∧ l.on ≤ d.law.on ∧ l.off ≤ d.law.off ∧ l.least ≤ d.law.least) : EasierDay d (lawD d l) :=
  ⟨rfl, h.1, h.2.1, h.2.2.1, h.2.2.2.1, h.2.2.2.2.1, h.2.2.2.2.2.1, h.2.2.2.2.2.2.1, h.2.2.2.2.2.2.2, fun b i => Int.le_refl _, fun b i => Int.le_refl _, fun b i => rfl, fun a b => Int.le_refl _⟩

/-- A day x beside the day d: its blocks and its walk are one's own. -/
structure Ez (w V : World) (d : DDay) (u z : Value) (N P M : Nat) (l : DLaw) (u1 z1 : Value) (us usw : List Value) (bl : List (List Rel)) (wk : List (List Int)) : Prop where
  bel : Below w.heap.size w V
  box : V.heap[w.heap.size]? = some (.cells #[.int .i64 d.law.piece, .int .i64 d.law.drive, .int .i64 d.law.spread, .int .i64 d.law.brk, .int .i64 d.law.on, .int .i64 d.law.off, .int .i64 d.law.least, .int .i64 d.law.pieces, u, z] 27 (0, 0))
  out : V.heap[N]? = some (.cells #[.int .i64 l.piece, .int .i64 l.drive, .int .i64 l.spread, .int .i64 l.brk, .int .i64 l.on, .int .i64 l.off, .int .i64 l.least, .int .i64 l.pieces, u1, z1] 27 (0, 0))
  bo : V.ownsRow P 56 1 u1 bl.length us
  bi : BlocksIn V us bl
  wo : V.ownsRow M 28 1 z1 wk.length usw
  wr : RowsOwn V M usw wk
theorem Ez.day {w V : World} {d : DDay} {u z u1 z1 : Value} {N P M : Nat} {l : DLaw} {us usw : List Value} {bl : List (List Rel)} {wk : List (List Int)} (h : Ez w V d u z N P M l u1 z1 us usw bl wk) : DayAt V u1 z1 ⟨l, bl, wk⟩ :=
  ⟨blocks_of_in h.bo h.bi, rows_of_own h.wo h.wr⟩
theorem Ez.below {w V V' : World} {d : DDay} {u z u1 z1 : Value} {N P M : Nat} {l : DLaw} {us usw : List Value} {bl : List (List Rel)} {wk : List (List Int)} (h : Ez w V d u z N P M l u1 z1 us usw bl wk) (hb : Below V.heap.size V V') : Ez w V' d u z N P M l u1 z1 us usw bl wk :=
  ⟨h.bel.trans (hb.mono h.bel.size), box_step hb h.box, box_step hb h.out, own_below h.bo hb, h.bi.below hb, own_below h.wo hb, h.wr.below hb⟩
/-- One field of the law is stored. -/
theorem Ez.law {w V : World} {d : DDay} {u z u1 z1 : Value} {N P M o : Nat} {l l' : DLaw} {us usw : List Value} {bl : List (List Rel)} {wk : List (List Int)} {x : Value} (h : Ez w V d u z N P M l u1 z1 us usw bl wk) (hN : w.heap.size < N) (hi : BlocksIn w us bl)
    (ho : (V.setCell ⟨N, o, none⟩ x).heap[N]? = some (.cells #[.int .i64 l'.piece, .int .i64 l'.drive, .int .i64 l'.spread, .int .i64 l'.brk, .int .i64 l'.on, .int .i64 l'.off, .int .i64 l'.least, .int .i64 l'.pieces, u1, z1] 27 (0, 0))) : Ez w (V.setCell ⟨N, o, none⟩ x) d u z N P M l' u1 z1 us usw bl wk := by
  have hb : Below w.heap.size w (V.setCell ⟨N, o, none⟩ x) := h.bel.setCell (p := ⟨N, o, none⟩) (by simp only; omega) _
  exact ⟨hb, blk_other h.box (by omega) _, ho, own_set h.bo (own_not h.bo h.out (by decide)) _, hi.below hb, own_set h.wo (own_not h.wo h.out (by decide)) _, h.wr.set h.out (by decide) _⟩
theorem relCells_lo : ∀ {l : List Rel} {m : Nat} {r : Rel} (lo : Int), l[m]? = some r → (relCells l).set (m * 3 + 1) (.int .i64 lo) = relCells (l.set m ⟨r.place, lo, r.hi⟩)
  | [], m, r, lo, h => by simp at h
  | x :: t, 0, r, lo, h => by
    have : x = r := by simpa using h
    subst this
    simp [relCells, relC]
  | x :: t, m + 1, r, lo, h => by
    have ih := relCells_lo (l := t) (m := m) lo (by simpa using h)
    have e1 : (m + 1) * 3 + 1 = m * 3 + 1 + 1 + 1 + 1 := by omega
    rw [e1]
    show (relC x ++ relCells t).set _ _ = relC x ++ relCells (t.set m _)
    simp only [relC, List.cons_append, List.nil_append, List.set_cons_succ]
    rw [ih]
theorem walD_mild {d : DDay} {r k : Nat} {row : List Int} (x : Int) (hm : Mild d) (hr : d.walk[r]? = some row) : Mild (walD d r (row.set k x)) := by
  refine ⟨hm.blocks, hm.block, by simp only [walD, List.length_set]; exact hm.walk, fun b y hy => ?_⟩
  simp only [walD] at hy
  rw [List.getElem?_set] at hy
  split at hy
  · split at hy
    · cases hy; rw [List.length_set]; exact hm.row r row hr
    · cases hy
  · exact hm.row b y hy
theorem easD_mild {d : DDay} {b : Nat} {l x : List Rel} (hm : Mild d) (hl : d.blocks[b]? = some l) (hx : x.length = l.length) : Mild (easD d b x) := by
  refine ⟨by simp only [easD, List.length_set]; exact hm.blocks, fun c y hy => ?_, hm.walk, hm.row⟩
  simp only [easD] at hy
  rw [List.getElem?_set] at hy
  split at hy
  · split at hy
    · cases hy; rw [hx]; exact hm.block b l hl
    · cases hy
  · exact hm.block c y hy
end Go.Proofs.Ytllobkhdeahgpaa
