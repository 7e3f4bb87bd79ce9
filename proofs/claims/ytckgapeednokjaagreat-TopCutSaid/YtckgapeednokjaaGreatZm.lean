import Derived.Test.YtckgapeednokjaaGreatZk
import Derived.Deep.CutRange
import Derived.Deep.Cut
set_option linter.unusedVariables false
set_option linter.unusedSimpArgs false
namespace Go.Proofs.YtckgapeednokjaaGreat
open Go Go.Proofs Go.RowKit

/-! ### Rows that lie apart -/
def GivesRowsA (w : World) (ll : List (List Int)) (e : Ending) (w' : World) : Prop :=
  ∃ A c us, e = .returned (.slice A ll.length c) ∧ w'.ownsRow w.heap.size 29 1 (.slice A ll.length c) ll.length us ∧ RowsOwn w' w.heap.size us ll ∧ us.Pairwise Apart ∧ Below w.heap.size w w'
theorem apart_snoc {w w' : World} {base : Nat} {us : List Value} {ll : List (List Int)} {e : TypeId} {size n : Nat} {v : Value} {xs : List Value} (h : us.Pairwise Apart) (hr : RowsOwn w base us ll) (hv : w'.ownsRow w.heap.size e size v n xs) : (us ++ [v]).Pairwise Apart := by
  refine List.pairwise_append.2 ⟨h, by simp, fun a ha b hb => ?_⟩
  obtain rfl : b = v := by simpa using hb
  obtain ⟨j, hj, rfl⟩ := List.getElem_of_mem ha
  have hjl : j < ll.length := by rw [← hr.1]; exact hj
  obtain ⟨u, h1, h2⟩ := hr.2 j _ (List.getElem?_eq_getElem hjl)
  rw [List.getElem?_eq_getElem hj] at h1
  cases h1
  intro g hg hb2
  have a1 := h2.lt g hg
  have a2 := hv.lt g hb2
  omega
theorem RowsOwn.stored {w : World} {base : Nat} {us : List Value} {ll : List (List Int)} {r g n c k : Nat} {row : List Int} {x : Int} (h : RowsOwn w base us ll) (ha : us.Pairwise Apart) (hu : us[r]? = some (.slice (some ⟨g, 0, none⟩) n c)) (hl : ll[r]? = some row) :
    RowsOwn (w.setCell ⟨g, k, none⟩ (.int .i64 x)) base us (ll.set r (row.set k x)) := by
  refine ⟨by rw [List.length_set]; exact h.1, fun j l hj => ?_⟩
  rw [List.getElem?_set] at hj
  by_cases e : r = j
  · subst e
    rw [if_pos rfl] at hj
    split at hj
    · cases hj
      obtain ⟨u, h1, h2⟩ := h.2 r row hl
      rw [hu] at h1
      cases h1
      have h3 := h2
      have hn : row.length = n := by
        rcases h2.2 with ⟨e1, _⟩ | ⟨g', cap, cur, e1, _⟩
        · cases e1
        · cases e1; rfl
      subst hn
      refine ⟨_, hu, ?_⟩
      have := (h3.stored k (.int .i64 x)).1
      rw [List.length_set, List.map_set]
      exact this
    · cases hj
  · rw [if_neg e] at hj
    obtain ⟨u, h1, h2⟩ := h.2 j l hj
    refine ⟨u, h1, own_set h2 ?_ _⟩
    intro e2
    have hr := (List.getElem?_eq_some_iff.1 hu)
    have hjj := (List.getElem?_eq_some_iff.1 h1)
    obtain ⟨k1, k2⟩ := hr
    obtain ⟨k3, k4⟩ := hjj
    have hp := List.pairwise_iff_getElem.1 ha
    rcases Nat.lt_or_gt_of_ne e with hlt | hlt
    · have := hp r j k1 k3 hlt
      rw [k2, k4] at this
      exact this g rfl e2.symm
    · have := hp j r k3 k1 hlt
      rw [k2, k4] at this
      exact this g e2.symm rfl
/-! ### Tables -/
def tabL (bl : List (List Rel)) (t : Nat → Nat → Int) : List (List Int) := (List.range bl.length).map fun b => (List.range (bl[b]?.getD []).length).map fun i => t b i
theorem tabL_len (bl : List (List Rel)) (t : Nat → Nat → Int) : (tabL bl t).length = bl.length := by simp [tabL]
theorem tabL_get {bl : List (List Rel)} (t : Nat → Nat → Int) {b : Nat} (hb : b < bl.length) : (tabL bl t)[b]? = some ((List.range (bl[b]?.getD []).length).map fun i => t b i) := by
  unfold tabL
  rw [List.getElem?_map, List.getElem?_range hb]
  rfl
theorem tabL_congr {bl : List (List Rel)} {t u : Nat → Nat → Int} (h : ∀ b i, b < bl.length → i < (bl[b]?.getD []).length → t b i = u b i) : tabL bl t = tabL bl u := by
  unfold tabL
  refine List.map_congr_left fun b hb => List.map_congr_left fun i hi => h b i (List.mem_range.1 hb) (List.mem_range.1 hi)
theorem tabL_at {bl : List (List Rel)} {t : Nat → Nat → Int} {b i : Nat} (hb : b < bl.length) (hi : i < (bl[b]?.getD []).length) : tabT (tabL bl t) b i = t b i := by
  unfold tabT
  rw [tabL_get t hb, Option.getD_some, List.getElem?_map, List.getElem?_range hi]
  rfl
def updT (t : Nat → Nat → Int) (b i : Nat) (x : Int) : Nat → Nat → Int := fun c j => if c = b ∧ j = i then x else t c j
theorem tabL_set {bl : List (List Rel)} (t : Nat → Nat → Int) {b : Nat} (i : Nat) (x : Int) (hb : b < bl.length) :
    (tabL bl t).set b (((List.range (bl[b]?.getD []).length).map fun j => t b j).set i x) = tabL bl (updT t b i x) := by
  apply List.ext_getElem?
  intro c
  by_cases e : b = c
  · subst e
    rw [List.getElem?_set_self (by rw [tabL_len]; exact hb), tabL_get _ hb]
    congr 1
    apply List.ext_getElem?
    intro j
    rw [List.getElem?_map]
    by_cases hj : j < (bl[b]?.getD []).length
    · rw [List.getElem?_range hj]
      by_cases e2 : i = j
      · subst e2
        rw [List.getElem?_set_self (by simpa using hj)]
        simp [updT]
      · rw [List.getElem?_set_ne e2, List.getElem?_map, List.getElem?_range hj]
        simp [updT, Ne.symm e2]
    · rw [List.getElem?_eq_none (by simpa using hj), List.getElem?_eq_none (by simpa using hj)]
      rfl
  · rw [List.getElem?_set_ne e]
    by_cases hc : c < bl.length
    · rw [tabL_get _ hc, tabL_get _ hc]
      simp [updT, Ne.symm e]
    · rw [List.getElem?_eq_none (by rw [tabL_len]; omega), List.getElem?_eq_none (by rw [tabL_len]; omega)]
theorem lows_tab (bl : List (List Rel)) : lowsL bl = tabL bl (loT bl) := by
  apply List.ext_getElem?
  intro b
  by_cases hb : b < bl.length
  · rw [tabL_get _ hb]
    unfold lowsL
    rw [List.getElem?_map, List.getElem?_eq_getElem hb, Option.map_some, Option.getD_some]
    congr 1
    apply List.ext_getElem?
    intro i
    rw [List.getElem?_map, List.getElem?_map]
    by_cases hi : i < bl[b].length
    · rw [List.getElem?_range hi, List.getElem?_eq_getElem hi]
      simp [loT, relAt, List.getElem?_eq_getElem hb, List.getElem?_eq_getElem hi]
    · rw [List.getElem?_eq_none (by omega), List.getElem?_eq_none (by simp; omega)]
      rfl
  · rw [List.getElem?_eq_none (by simp [lowsL]; omega), List.getElem?_eq_none (by rw [tabL_len]; omega)]
theorem highs_tab (bl : List (List Rel)) : highsL bl = tabL bl (hiT bl) := by
  apply List.ext_getElem?
  intro b
  by_cases hb : b < bl.length
  · rw [tabL_get _ hb]
    unfold highsL
    rw [List.getElem?_map, List.getElem?_eq_getElem hb, Option.map_some, Option.getD_some]
    congr 1
    apply List.ext_getElem?
    intro i
    rw [List.getElem?_map, List.getElem?_map]
    by_cases hi : i < bl[b].length
    · rw [List.getElem?_range hi, List.getElem?_eq_getElem hi]
      simp [hiT, relAt, List.getElem?_eq_getElem hb, List.getElem?_eq_getElem hi]
    · rw [List.getElem?_eq_none (by omega), List.getElem?_eq_none (by simp; omega)]
      rfl
  · rw [List.getElem?_eq_none (by simp [highsL]; omega), List.getElem?_eq_none (by rw [tabL_len]; omega)]
theorem truth_of {bl : List (List Rel)} {t : Nat → Nat → Int} (h1 : ∀ b i, b < bl.length → i < (bl[b]?.getD []).length → loT bl b i ≤ t b i ∧ t b i ≤ hiT bl b i)
    (h2 : ∀ b i, b < bl.length → i + 1 < (bl[b]?.getD []).length → t b i ≤ t b (i + 1)) : truthB bl (tabL bl t) = true := by
  unfold truthB
  rw [Bool.and_eq_true, decide_eq_true_eq, all_range, tabL_len]
  refine ⟨rfl, fun b hb => ?_⟩
  rw [tabL_get t hb, Option.getD_some]
  unfold rowT
  rw [Bool.and_eq_true, decide_eq_true_eq, all_range]
  simp only [List.length_map, List.length_range]
  refine ⟨trivial, fun i hi => ?_⟩
  have e : ∀ j, j < (bl[b]?.getD []).length → ((List.range (bl[b]?.getD []).length).map fun i => t b i)[j]?.getD 0 = t b j := fun j hj => by
    rw [List.getElem?_map, List.getElem?_range hj]; rfl
  unfold cellT
  rw [e i hi, Bool.and_eq_true]
  refine ⟨inB_iff.2 (h1 b i hb hi), ?_⟩
  cases i with
  | zero => rfl
  | succ i =>
    rw [Nat.add_sub_cancel, e i (by omega)]
    have := h2 b i hb hi
    simp
    omega
/-- A table that one owns. -/
def TabOwn (W : World) (base : Nat) (v : Value) (tt : List (List Int)) : Prop := ∃ us, W.ownsRow base 29 1 v tt.length us ∧ RowsOwn W base us tt ∧ us.Pairwise Apart
theorem TabOwn.below {W W' : World} {base : Nat} {v : Value} {tt : List (List Int)} (h : TabOwn W base v tt) (hb : Below W.heap.size W W') : TabOwn W' base v tt := by
  obtain ⟨us, h1, h2, h3⟩ := h
  exact ⟨us, own_below h1 hb, h2.below hb, h3⟩
theorem TabOwn.rows {W : World} {base : Nat} {v : Value} {tt : List (List Int)} (h : TabOwn W base v tt) : RowsAt W v tt := by
  obtain ⟨us, h1, h2, h3⟩ := h
  exact rows_of_own h1 h2
theorem TabOwn.at_ {W : World} {base : Nat} {v : Value} {tt : List (List Int)} {b : Nat} {row : List Int} (h : TabOwn W base v tt) (hb : tt[b]? = some row) (h0 : 0 < row.length) :
    ∃ g c gr cr, v = .slice (some ⟨g, 0, none⟩) tt.length c ∧ W.cell? ⟨g, b, none⟩ = some (.slice (some ⟨gr, 0, none⟩) row.length cr) ∧ (∀ j x, row[j]? = some x → W.cell? ⟨gr, j, none⟩ = some (.int .i64 x)) ∧ (∀ o, W.frozen? ⟨gr, o, none⟩ = false) ∧ base ≤ gr ∧ (∃ cur, W.heap[gr]? = some (.cells cur 3 (0, 0))) ∧
      ∀ j x, TabOwn (W.setCell ⟨gr, j, none⟩ (.int .i64 x)) base v (tt.set b (row.set j x)) := by
  obtain ⟨us, h1, h2, h3⟩ := h
  have hbl := (List.getElem?_eq_some_iff.1 hb).1
  obtain ⟨u, hu, hr⟩ := h2.2 b row hb
  have hr0 := hr
  rcases hr.2 with ⟨_, e⟩ | ⟨gr, cr, cur, rfl, hgr, hgc, _⟩
  · omega
  · rcases h1.2 with ⟨_, e⟩ | ⟨g, c, cur2, e2, hg, hgc2, _⟩
    · omega
    · have hne : some gr ≠ v.ownBlock := fun e3 => by
        rw [e2] at e3
        simp only [Value.ownBlock, Option.some.injEq] at e3
        subst e3
        rw [hgc] at hgc2
        cases hgc2
      refine ⟨g, c, gr, cr, e2, ?_, fun j x hx => ?_, fun o => hr0.frozenAt o, hgr, ⟨cur, hgc⟩, fun j x => ⟨us, ?_, h2.stored h3 hu hb, h3⟩⟩
      · rw [e2] at h1
        rw [h1.cellAt b (by omega), hu]
      · rw [hr0.cellAt j (by have := (List.getElem?_eq_some_iff.1 hx).1; omega), List.getElem?_map, hx]
        rfl
      · rw [List.length_set]
        exact own_set h1 hne _
theorem own_other {W : World} {base size n gr j : Nat} {e T : TypeId} {v x : Value} {xs : List Value} {cur : Array Value} (h : W.ownsRow base e size v n xs) (hg : W.heap[gr]? = some (.cells cur T (0, 0))) (hne : e ≠ T) : (W.setCell ⟨gr, j, none⟩ x).ownsRow base e size v n xs := by
  refine own_set h (fun e3 => ?_) x
  rcases h.2 with ⟨rfl, _⟩ | ⟨g, c, cur2, e2, _, hgc2, _⟩
  · cases e3
  · rw [e2] at e3
    simp only [Value.ownBlock, Option.some.injEq] at e3
    subst e3
    rw [hg] at hgc2
    cases hgc2
    exact hne rfl
/-- What hands a table back. -/
def GivesTab (w : World) (tt : List (List Int)) (e : Ending) (w' : World) : Prop := GivesRows w tt e w'
theorem RowsOwn.lower {w : World} {base base' : Nat} {us : List Value} {ll : List (List Int)} (h : RowsOwn w base us ll) (hb : base' ≤ base) : RowsOwn w base' us ll :=
  ⟨h.1, fun j l hl => by
    obtain ⟨u, h1, h2⟩ := h.2 j l hl
    exact ⟨u, h1, own_mono h2 hb⟩⟩
theorem gives_tab {w W : World} {base n c : Nat} {A : Option Addr} {us : List Value} {tt : List (List Int)} (h1 : W.ownsRow base 29 1 (.slice A n c) n us) (h2 : RowsOwn W base us tt) (hn : n = tt.length) (hb : w.heap.size ≤ base) (hB : Below w.heap.size w W) :
    GivesTab w tt (.returned (.slice A n c)) W := by
  subst hn
  exact ⟨A, c, us, rfl, own_mono h1 hb, h2.lower hb, hB⟩
theorem TabOwn.gives {w W : World} {base n c : Nat} {A : Option Addr} {tt : List (List Int)} (h : TabOwn W base (.slice A n c) tt) (hn : n = tt.length) (hb : w.heap.size ≤ base) (hB : Below w.heap.size w W) :
    GivesTab w tt (.returned (.slice A n c)) W := by
  obtain ⟨us, h1, h2, h3⟩ := h
  rw [← hn] at h1
  exact gives_tab h1 h2 hn hb hB
end Go.Proofs.YtckgapeednokjaaGreat
