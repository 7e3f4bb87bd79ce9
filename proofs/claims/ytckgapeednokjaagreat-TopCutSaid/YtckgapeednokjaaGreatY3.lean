import Derived.Test.YtckgapeednokjaaGreatY1
set_option linter.unusedVariables false
set_option linter.unusedSimpArgs false
namespace Go.Proofs.YtckgapeednokjaaGreat
open Go Go.Proofs Go.RowKit

/-! ### Rows of reliefs that one owns (the reference's type) -/
def RelsOwnR (w : World) (base : Nat) (us : List Value) (ll : List (List Rel)) : Prop :=
  us.length = ll.length ∧ ∀ (j : Nat) (l : List Rel), ll[j]? = some l → ∃ u, us[j]? = some u ∧ w.ownsRow base 134 3 u l.length (relCells l)
theorem RelsOwnR.kept {w w' : World} {base base' : Nat} {us : List Value} {ll : List (List Rel)} {v : Value} {e : TypeId} {n : Nat} {xs : List Value} {size : Nat} (h : RelsOwnR w base us ll) (hv : w.ownsRow base' e size v n xs) (hne : e ≠ 134)
    (hg : w.grownBy w' v.ownBlock) : RelsOwnR w' base us ll :=
  ⟨h.1, fun j l hl => by
    obtain ⟨u, h1, h2⟩ := h.2 j l hl
    exact ⟨u, h1, h2.kept hg (own_apart h2 hv (Ne.symm hne))⟩⟩
theorem RelsOwnR.below {w w' : World} {base : Nat} {us : List Value} {ll : List (List Rel)} (h : RelsOwnR w base us ll) (hb : Below w.heap.size w w') : RelsOwnR w' base us ll :=
  ⟨h.1, fun j l hl => by
    obtain ⟨u, h1, h2⟩ := h.2 j l hl
    exact ⟨u, h1, own_below h2 hb⟩⟩
theorem RelsOwnR.set {w : World} {base P o : Nat} {us : List Value} {ll : List (List Rel)} {cur : Array Value} {t : TypeId} {fr : Nat × Nat} (h : RelsOwnR w base us ll) (hP : w.heap[P]? = some (.cells cur t fr)) (hne : 134 ≠ t) (u : Value) : RelsOwnR (w.setCell ⟨P, o, none⟩ u) base us ll :=
  ⟨h.1, fun j l hl => by
    obtain ⟨x, h1, h2⟩ := h.2 j l hl
    exact ⟨x, h1, own_set h2 (own_not h2 hP hne) u⟩⟩
theorem RelsOwnR.snoc {w : World} {base : Nat} {us : List Value} {ll : List (List Rel)} {u : Value} {l : List Rel} (h : RelsOwnR w base us ll) (hu : w.ownsRow base 134 3 u l.length (relCells l)) : RelsOwnR w base (us ++ [u]) (ll ++ [l]) := by
  refine ⟨by simp [h.1], fun j l' hl => ?_⟩
  rw [List.getElem?_append] at hl
  split at hl
  · obtain ⟨x, h1, h2⟩ := h.2 j l' hl
    exact ⟨x, by rw [List.getElem?_append_left (by rw [h.1]; assumption)]; exact h1, h2⟩
  · rename_i hj
    have e : j = ll.length := by
      have := (List.getElem?_eq_some_iff.1 hl).1
      simp at this
      omega
    subst e
    simp at hl
    subst hl
    exact ⟨u, by rw [← h.1]; simp, hu⟩
theorem blocks_of_ownR {w : World} {base base' : Nat} {e : TypeId} {v : Value} {n : Nat} {us : List Value} {ll : List (List Rel)} (h : w.ownsRow base e 1 v n us) (hr : RelsOwnR w base' us ll) : BlocksAt w v ll := by
  have hn : ll.length = n := by rw [← hr.1]; simpa using h.1
  rcases h.2 with ⟨rfl, h0⟩ | ⟨g, cap, cur, rfl, _, hg, hc, hm, hs, ht⟩
  · have : ll.length = 0 := by omega
    exact ⟨none, 0, by rw [this], by omega, by simp [maxLen], fun hp => by omega⟩
  · refine ⟨some ⟨g, 0, none⟩, cap, by rw [hn], by omega, hm, fun hp => ⟨g, 0, rfl, fun k l hk => ?_⟩⟩
    have hk' := (List.getElem?_eq_some_iff.1 hk).1
    obtain ⟨u, h1, h2⟩ := hr.2 k l hk
    refine ⟨u, ?_, rels_of_own h2⟩
    simp only [Nat.zero_add]
    rw [h.cellAt k (by omega), h1]

/-- A day x beside the day d: its blocks so far are one's own. -/
structure ChMid (w wr : World) (d : DDay) (N : Nat) (u z zx : Value) (bl : List (List Rel)) (k : Nat) (A : Option Addr) (c : Nat) (us : List Value) : Prop where
  bel : Below w.heap.size w wr
  box : wr.heap[w.heap.size]? = some (.cells #[.int .i64 d.law.piece, .int .i64 d.law.drive, .int .i64 d.law.spread, .int .i64 d.law.brk, .int .i64 d.law.on, .int .i64 d.law.off, .int .i64 d.law.least, .int .i64 d.law.pieces, u, z] 63 (0, 0))
  out : wr.heap[N]? = some (.cells #[.int .i64 d.law.piece, .int .i64 d.law.drive, .int .i64 d.law.spread, .int .i64 d.law.brk, .int .i64 d.law.on, .int .i64 d.law.off, .int .i64 d.law.least, .int .i64 d.law.pieces, .slice A k c, zx] 63 (0, 0))
  rels : wr.ownsRow w.heap.size 131 1 (.slice A k c) k us
  own : RelsOwnR wr w.heap.size us bl
theorem ChMid.below {w wr wr' : World} {d : DDay} {N : Nat} {u z zx : Value} {bl : List (List Rel)} {k : Nat} {A : Option Addr} {c : Nat} {us : List Value} (h : ChMid w wr d N u z zx bl k A c us) (hb : Below wr.heap.size wr wr') : ChMid w wr' d N u z zx bl k A c us :=
  ⟨h.bel.trans (hb.mono h.bel.size), (hb.block _ (Array.getElem?_eq_some_iff.1 h.box).1).trans h.box, (hb.block _ (Array.getElem?_eq_some_iff.1 h.out).1).trans h.out, own_below h.rels hb, h.own.below hb⟩
/-- One block more: it is appended, and the row is stored. -/
theorem ChMid.next {w wr w1 : World} {d : DDay} {N : Nat} {u z zx : Value} {bl : List (List Rel)} {k : Nat} {A AA : Option Addr} {c cc : Nat} {us : List Value} {x : Value} {l : List Rel} {t : TypeId} (h : ChMid w wr d N u z zx bl k A c us) (hN : w.heap.size < N)
    (hx : wr.ownsRow w.heap.size 134 3 x l.length (relCells l)) (ho : w1.ownsRow w.heap.size 131 1 (.slice AA (k + 1) cc) (k + 1) (us ++ [x])) (hg : (wr.alloc (.cells #[x] t)).grownBy w1 (Value.slice A k c).ownBlock) :
    ChMid w (w1.setCell ⟨N, 8, none⟩ (.slice AA (k + 1) cc)) d N u z zx (bl ++ [l]) (k + 1) AA cc (us ++ [x]) := by
  have ha : Below wr.heap.size wr (wr.alloc (.cells #[x] t)) := (Below.refl _ _).alloc (Nat.le_refl _) _
  have h1 := h.below ha
  have hP := own_grow h.rels h.out (by decide) hg
  refine ⟨?_, ?_, ?_, ?_, ?_⟩
  · exact (h1.bel.grown hg h1.bel.size fun q hq => (h1.rels.lt q hq).1).setCell (p := ⟨N, 8, none⟩) (by simp; omega) _
  · exact blk_other (own_grow h.rels h.box (by decide) hg) (by omega) _
  · have := blk_set hP (o := 8) (.slice AA (k + 1) cc)
    simpa only [List.setIfInBounds_toArray, List.set_cons_succ, List.set_cons_zero] using this
  · exact own_set ho (own_not ho hP (by decide)) _
  · exact ((h1.own.kept h1.rels (by decide) hg).snoc ((hx.alloc _).kept hg (own_apart (hx.alloc _) h1.rels (by decide)))).set hP (by decide) _
theorem rels_src {w : World} {A : Option Addr} {n c : Nat} {l : List Rel} (h : RelsAt w (.slice A n c) l) : Src w A n 3 (relCells l) := by
  obtain ⟨A', c', e, h1, h2, h3⟩ := h
  cases e
  refine ⟨by rw [show (relCells l).length = l.length * 3 from flat_length (f := relC) (n := 3) (fun _ => rfl) l], fun hp => ?_⟩
  obtain ⟨b, o, rfl, hc⟩ := h3 hp
  refine ⟨_, rfl, fun j u hu => ?_⟩
  have hj := (List.getElem?_eq_some_iff.1 hu).1
  rw [show (relCells l).length = l.length * 3 from flat_length (f := relC) (n := 3) (fun _ => rfl) l] at hj
  have e : j = j / 3 * 3 + j % 3 := by omega
  have hk : j / 3 < l.length := by omega
  have hr := List.getElem?_eq_getElem hk
  have hg : (relCells l)[j / 3 * 3 + j % 3]? = (relC l[j / 3])[j % 3]? := flat_get (f := relC) (n := 3) (fun _ => rfl) hr (by omega)
  rw [← e, hu] at hg
  obtain ⟨c0, c1, c2⟩ := hc _ _ hr
  rw [Addr.add_lit, e, ← Nat.add_assoc]
  have h3 : j % 3 = 0 ∨ j % 3 = 1 ∨ j % 3 = 2 := by omega
  rcases h3 with h | h | h <;> rw [h] at hg ⊢
  · have : u = .int .i64 l[j / 3].place := by simpa [relC] using hg
    rw [this]; exact c0
  · have : u = .int .i64 l[j / 3].lo := by simpa [relC] using hg
    rw [this]; exact c1
  · have : u = .int .i64 l[j / 3].hi := by simpa [relC] using hg
    rw [this]; exact c2
theorem relCells_one (l : List Rel) : ∀ u ∈ relCells l, u.oneCell' = true := fun u hu => by
  obtain ⟨r, _, hr⟩ := List.mem_flatMap.1 hu
  simp only [relC, List.mem_cons, List.not_mem_nil, or_false] at hr
  rcases hr with rfl | rfl | rfl <;> rfl
theorem relCells_len (l : List Rel) : (relCells l).length = l.length * 3 := flat_length (f := relC) (n := 3) (fun _ => rfl) l
theorem relCells_get {l : List Rel} {m j : Nat} {r : Rel} (h : l[m]? = some r) (hj : j < 3) : (relCells l)[m * 3 + j]? = (relC r)[j]? := flat_get (f := relC) (n := 3) (fun _ => rfl) h hj
/-- One relief has other times. -/
theorem relCells_set : ∀ {l : List Rel} {m : Nat} {r : Rel} (lo hi : Int), l[m]? = some r → ((relCells l).set (m * 3 + 1) (.int .i64 lo)).set (m * 3 + 2) (.int .i64 hi) = relCells (l.set m ⟨r.place, lo, hi⟩)
  | [], m, r, lo, hi, h => by simp at h
  | x :: t, 0, r, lo, hi, h => by
    have : x = r := by simpa using h
    subst this
    simp [relCells, relC]
  | x :: t, m + 1, r, lo, hi, h => by
    have ih := relCells_set (l := t) (m := m) lo hi (by simpa using h)
    have e1 : (m + 1) * 3 + 1 = m * 3 + 1 + 1 + 1 + 1 := by omega
    have e2 : (m + 1) * 3 + 2 = m * 3 + 2 + 1 + 1 + 1 := by omega
    rw [e1, e2]
    show ((relC x ++ relCells t).set _ _).set _ _ = relC x ++ relCells (t.set m _)
    simp only [relC, List.cons_append, List.nil_append, List.set_cons_succ]
    rw [ih]
end Go.Proofs.YtckgapeednokjaaGreat
