import Derived.Test.YtobeffjdfhkjeaaO
set_option linter.unusedVariables false
set_option linter.unusedSimpArgs false
namespace Go.Proofs.Ytobeffjdfhkjeaa
open Go Go.RowKit

/-! ### A row of strata whose lists may lie anywhere -/
def StrataVals (w : World) (xs : List Value) (ss : List Strat) : Prop :=
  xs.length = ss.length * 4 ∧ ∀ (j : Nat) (s : Strat), ss[j]? = some s → xs[j * 4]? = some (.int .i64 s.coins) ∧ xs[j * 4 + 1]? = some (.int .i64 s.lo) ∧ xs[j * 4 + 2]? = some (.int .i64 s.hi) ∧
    ∃ u, xs[j * 4 + 3]? = some u ∧ NumsAt .i64 w u s.seen

theorem StrataVals.below {w w' : World} {xs : List Value} {ss : List Strat} (h : StrataVals w xs ss) (hb : Below w.heap.size w w') : StrataVals w' xs ss :=
  ⟨h.1, fun j s hs => by
    obtain ⟨h0, h1, h2, u, h3, h4⟩ := h.2 j s hs
    exact ⟨h0, h1, h2, u, h3, h4.below hb⟩⟩

theorem strata_of_vals {w : World} {base : Nat} {e : TypeId} {v : Value} {n : Nat} {xs : List Value} {ss : List Strat} (h : w.ownsRow base e 4 v n xs) (hr : StrataVals w xs ss) : StrataAt w v ss := by
  have hn : ss.length = n := by have h1 := hr.1; have h2 := h.1; omega
  rcases h.2 with ⟨rfl, h0⟩ | ⟨g, cap, cur, rfl, _, hg, hc, hm, hs, ht⟩
  · have : ss.length = 0 := by omega
    exact ⟨none, 0, by rw [this], by omega, by simp [maxLen], fun hp => by omega⟩
  · refine ⟨some ⟨g, 0, none⟩, cap, by rw [hn], by omega, hm, fun hp => ⟨g, 0, rfl, fun k s hks => ?_⟩⟩
    have hk := (List.getElem?_eq_some_iff.1 hks).1
    obtain ⟨h0, h1, h2, u, h3, h4⟩ := hr.2 k s hks
    refine ⟨u, h4, ?_, ?_, ?_, ?_⟩
    · rw [Nat.zero_add, h.cellAt _ (by omega)]; exact h0
    · rw [Nat.zero_add, h.cellAt _ (by omega)]; exact h1
    · rw [Nat.zero_add, h.cellAt _ (by omega)]; exact h2
    · rw [Nat.zero_add, h.cellAt _ (by omega)]; exact h3

def cell4 (ss : List Strat) (f : Nat → Value) (i : Nat) : Value :=
  if i % 4 = 0 then .int .i64 (ss[i / 4]?.getD Strat.none).coins else if i % 4 = 1 then .int .i64 (ss[i / 4]?.getD Strat.none).lo else if i % 4 = 2 then .int .i64 (ss[i / 4]?.getD Strat.none).hi else f (i / 4)
theorem cell4_0 (ss : List Strat) (f : Nat → Value) (j : Nat) : cell4 ss f (j * 4) = .int .i64 (ss[j]?.getD Strat.none).coins := by
  unfold cell4
  rw [if_pos (by omega), show j * 4 / 4 = j by omega]
theorem cell4_1 (ss : List Strat) (f : Nat → Value) (j : Nat) : cell4 ss f (j * 4 + 1) = .int .i64 (ss[j]?.getD Strat.none).lo := by
  unfold cell4
  rw [if_neg (by omega), if_pos (by omega), show (j * 4 + 1) / 4 = j by omega]
theorem cell4_2 (ss : List Strat) (f : Nat → Value) (j : Nat) : cell4 ss f (j * 4 + 2) = .int .i64 (ss[j]?.getD Strat.none).hi := by
  unfold cell4
  rw [if_neg (by omega), if_neg (by omega), if_pos (by omega), show (j * 4 + 2) / 4 = j by omega]
theorem cell4_3 (ss : List Strat) (f : Nat → Value) (j : Nat) : cell4 ss f (j * 4 + 3) = f j := by
  unfold cell4
  rw [if_neg (by omega), if_neg (by omega), if_neg (by omega), show (j * 4 + 3) / 4 = j by omega]

/-- The cells of a row of strata. -/
theorem vals_of_strata {w : World} {A : Option Addr} {n c : Nat} {ss : List Strat} (h : StrataAt w (.slice A n c) ss) : ∃ xs, Src w A ss.length 4 xs ∧ StrataVals w xs ss ∧ ∀ u ∈ xs, u.oneCell' = true := by
  obtain ⟨A', c', e, h1, h2, h3⟩ := h
  obtain ⟨rfl, rfl, rfl⟩ : A = A' ∧ n = ss.length ∧ c = c' := by simpa using e
  by_cases hp : 0 < ss.length
  · obtain ⟨b, o, rfl, hc⟩ := h3 hp
    have hu : ∀ j : Nat, ∃ u, ∀ s, ss[j]? = some s → NumsAt .i64 w u s.seen ∧ w.cell? ⟨b, o + j * 4, none⟩ = some (.int .i64 s.coins) ∧ w.cell? ⟨b, o + j * 4 + 1, none⟩ = some (.int .i64 s.lo) ∧
        w.cell? ⟨b, o + j * 4 + 2, none⟩ = some (.int .i64 s.hi) ∧ w.cell? ⟨b, o + j * 4 + 3, none⟩ = some u := by
      intro j
      cases hs : ss[j]? with
      | none => exact ⟨.bool false, fun s h => by cases h⟩
      | some s =>
        obtain ⟨u, hu⟩ := hc j s hs
        exact ⟨u, fun s' h' => by cases h'; exact hu⟩
    let f : Nat → Value := fun j => Classical.choose (hu j)
    have hf : ∀ j s, ss[j]? = some s → NumsAt .i64 w (f j) s.seen ∧ w.cell? ⟨b, o + j * 4, none⟩ = some (.int .i64 s.coins) ∧ w.cell? ⟨b, o + j * 4 + 1, none⟩ = some (.int .i64 s.lo) ∧
        w.cell? ⟨b, o + j * 4 + 2, none⟩ = some (.int .i64 s.hi) ∧ w.cell? ⟨b, o + j * 4 + 3, none⟩ = some (f j) := fun j => Classical.choose_spec (hu j)
    obtain ⟨g, hgd⟩ : ∃ g, g = cell4 ss f := ⟨_, rfl⟩
    have hg : ∀ i, i < ss.length * 4 → ((List.range (ss.length * 4)).map g)[i]? = some (g i) := fun i hi => by simp [hi]
    have g0 : ∀ j, g (j * 4) = .int .i64 (ss[j]?.getD Strat.none).coins := fun j => by rw [hgd]; exact cell4_0 ss f j
    have g1 : ∀ j, g (j * 4 + 1) = .int .i64 (ss[j]?.getD Strat.none).lo := fun j => by rw [hgd]; exact cell4_1 ss f j
    have g2 : ∀ j, g (j * 4 + 2) = .int .i64 (ss[j]?.getD Strat.none).hi := fun j => by rw [hgd]; exact cell4_2 ss f j
    have g3 : ∀ j, g (j * 4 + 3) = f j := fun j => by rw [hgd]; exact cell4_3 ss f j
    refine ⟨(List.range (ss.length * 4)).map g, ⟨by simp, fun _ => ⟨⟨b, o, none⟩, rfl, fun i u hi => ?_⟩⟩, ⟨by simp, fun j s hs => ?_⟩, fun u hu => ?_⟩
    · have hlt : i < ss.length * 4 := by have := (List.getElem?_eq_some_iff.1 hi).1; simpa using this
      rw [hg i hlt] at hi
      obtain rfl := Option.some.inj hi
      have hj : i / 4 < ss.length := by omega
      have hs := List.getElem?_eq_getElem hj
      obtain ⟨_, q0, q1, q2, q3⟩ := hf (i / 4) _ hs
      have ea : (Addr.add ⟨b, o, none⟩ i) = ⟨b, o + i, none⟩ := by
        unfold Addr.add
        split
        · rename_i h; subst h; rfl
        · rfl
      rw [ea]
      have hi4 : i % 4 < 4 := Nat.mod_lt _ (by omega)
      have hcase : i % 4 = 0 ∨ i % 4 = 1 ∨ i % 4 = 2 ∨ i % 4 = 3 := by omega
      rcases hcase with h | h | h | h
      · obtain ⟨j, rfl⟩ : ∃ j, i = j * 4 := ⟨i / 4, by omega⟩
        rw [g0]
        have e : j * 4 / 4 = j := by omega
        simp only [e] at q0 hs
        rw [q0, hs]; rfl
      · obtain ⟨j, rfl⟩ : ∃ j, i = j * 4 + 1 := ⟨i / 4, by omega⟩
        rw [g1]
        have e : (j * 4 + 1) / 4 = j := by omega
        simp only [e] at q1 hs
        rw [← Nat.add_assoc, q1, hs]; rfl
      · obtain ⟨j, rfl⟩ : ∃ j, i = j * 4 + 2 := ⟨i / 4, by omega⟩
        rw [g2]
        have e : (j * 4 + 2) / 4 = j := by omega
        simp only [e] at q2 hs
        rw [← Nat.add_assoc, q2, hs]; rfl
      · obtain ⟨j, rfl⟩ : ∃ j, i = j * 4 + 3 := ⟨i / 4, by omega⟩
        rw [g3]
        have e : (j * 4 + 3) / 4 = j := by omega
        simp only [e] at q3
        rw [← Nat.add_assoc, q3]
    · have hlt := (List.getElem?_eq_some_iff.1 hs).1
      obtain ⟨q, _⟩ := hf j s hs
      refine ⟨?_, ?_, ?_, f j, ?_, q⟩
      · rw [hg _ (by omega), g0, hs]; rfl
      · rw [hg _ (by omega), g1, hs]; rfl
      · rw [hg _ (by omega), g2, hs]; rfl
      · rw [hg _ (by omega), g3]
    · obtain ⟨i, hi, rfl⟩ := List.mem_map.1 hu
      have hlt : i < ss.length * 4 := by simpa using hi
      have hj : i / 4 < ss.length := by omega
      have hcase : i % 4 = 0 ∨ i % 4 = 1 ∨ i % 4 = 2 ∨ i % 4 = 3 := by omega
      rcases hcase with h | h | h | h
      · obtain ⟨j, rfl⟩ : ∃ j, i = j * 4 := ⟨i / 4, by omega⟩
        rw [g0]; simp [Value.oneCell']
      · obtain ⟨j, rfl⟩ : ∃ j, i = j * 4 + 1 := ⟨i / 4, by omega⟩
        rw [g1]; simp [Value.oneCell']
      · obtain ⟨j, rfl⟩ : ∃ j, i = j * 4 + 2 := ⟨i / 4, by omega⟩
        rw [g2]; simp [Value.oneCell']
      · obtain ⟨j, rfl⟩ : ∃ j, i = j * 4 + 3 := ⟨i / 4, by omega⟩
        rw [g3]
        obtain ⟨q, _⟩ := hf j _ (List.getElem?_eq_getElem (by omega : j < ss.length))
        obtain ⟨A, c, e, _⟩ := q
        rw [e]
        simp [Value.oneCell']
  · have h0 : ss = [] := List.length_eq_zero_iff.1 (by omega)
    subst h0
    exact ⟨[], ⟨by simp, by simp⟩, ⟨by simp, by simp⟩, by simp⟩

theorem src_below {w w' : World} {A : Option Addr} {m size : Nat} {xs : List Value} (h : Src w A m size xs) (hb : Below w.heap.size w w') : Src w' A m size xs :=
  ⟨h.1, fun hp => by
    obtain ⟨ad, e, hc⟩ := h.2 hp
    exact ⟨ad, e, fun j u hj => cell_below hb (hc j u hj)⟩⟩

theorem vals_set {w : World} {xs : List Value} {ss : List Strat} (h : StrataVals w xs ss) {i : Nat} (hi : i < ss.length) {s : Strat} {u : Value} (hu : NumsAt .i64 w u s.seen) :
    StrataVals w ((((xs.set (i * 4) (.int .i64 s.coins)).set (i * 4 + 1) (.int .i64 s.lo)).set (i * 4 + 2) (.int .i64 s.hi)).set (i * 4 + 3) u) (ss.set i s) := by
  have hl := h.1
  refine ⟨by simp [hl], fun j s' hs' => ?_⟩
  rw [List.getElem?_set] at hs'
  by_cases e : i = j
  · subst e
    simp [hi] at hs'
    subst hs'
    refine ⟨?_, ?_, ?_, u, ?_, hu⟩
    · simp only [List.getElem?_set, List.length_set]
      rw [if_neg (by omega), if_neg (by omega), if_neg (by omega), if_pos trivial, if_pos (by omega)]
    · simp only [List.getElem?_set, List.length_set]
      rw [if_neg (by omega), if_neg (by omega), if_pos trivial, if_pos (by omega)]
    · simp only [List.getElem?_set, List.length_set]
      rw [if_neg (by omega), if_pos trivial, if_pos (by omega)]
    · simp only [List.getElem?_set, List.length_set]
      rw [if_pos trivial, if_pos (by omega)]
  · rw [if_neg e] at hs'
    obtain ⟨h0, h1, h2, u', h3, h4⟩ := h.2 j s' hs'
    refine ⟨?_, ?_, ?_, u', ?_, h4⟩
    · simp only [List.getElem?_set, List.length_set]
      rw [if_neg (by omega), if_neg (by omega), if_neg (by omega), if_neg (by omega)]; exact h0
    · simp only [List.getElem?_set, List.length_set]
      rw [if_neg (by omega), if_neg (by omega), if_neg (by omega), if_neg (by omega)]; exact h1
    · simp only [List.getElem?_set, List.length_set]
      rw [if_neg (by omega), if_neg (by omega), if_neg (by omega), if_neg (by omega)]; exact h2
    · simp only [List.getElem?_set, List.length_set]
      rw [if_neg (by omega), if_neg (by omega), if_neg (by omega), if_neg (by omega)]; exact h3
end Go.Proofs.Ytobeffjdfhkjeaa
