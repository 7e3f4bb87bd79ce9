import Derived.Test.YtckgapeednokjaaGreatZ3
set_option linter.unusedVariables false
set_option linter.unusedSimpArgs false
namespace Go.Proofs.YtckgapeednokjaaGreat
open Go Go.Proofs Go.RowKit

/-! ### Pieces -/
theorem prCells_to (ps : List Pc) (p : Pc) (i : Nat) : (prCells (ps ++ [p])).set (ps.length * 4 + 2) (.int .i64 ((i : Int) + 1)) = prCells (ps ++ [⟨p.b, p.fr, i + 1, p.first⟩]) := by
  have h : (prCells ps).length = ps.length * 4 := prCells_len ps
  rw [prCells_snoc, prCells_snoc, List.set_append_right _ _ (by omega), h, show ps.length * 4 + 2 - ps.length * 4 = 2 by omega]
  simp [prC]
/-- The state of the sort: x goes up from place i to place k. -/
def midP (S : List Pc) (x : Pc) (k : Nat) : List Pc := S.take k ++ x :: S.drop k
theorem midP_len {S : List Pc} {x : Pc} {k : Nat} (hk : k ≤ S.length) : (midP S x k).length = S.length + 1 := by
  simp [midP]
  omega
theorem midP_at {S : List Pc} {x : Pc} {k : Nat} (hk : k ≤ S.length) : (midP S x k)[k]? = some x := by
  unfold midP
  rw [List.getElem?_append_right (by simp; omega), List.length_take, Nat.min_eq_left hk, Nat.sub_self]
  rfl
theorem midP_before {S : List Pc} {x : Pc} {k : Nat} (hk : k + 1 ≤ S.length) : (midP S x (k + 1))[k]? = S[k]? := by
  unfold midP
  rw [List.getElem?_append_left (by simp; omega), List.getElem?_take, if_pos (by omega)]
theorem midP_swap {S : List Pc} {x y : Pc} {k : Nat} (hy : S[k]? = some y) (T : List Pc) :
    midP S x k ++ T = (((midP S x (k + 1) ++ T).set (k + 1) y).set k x) := by
  have hk := (List.getElem?_eq_some_iff.1 hy).1
  apply List.ext_getElem?
  intro i
  rw [List.getElem?_set, List.getElem?_set]
  have l1 := midP_len (S := S) (x := x) (k := k) (by omega)
  have l2 := midP_len (S := S) (x := x) (k := k + 1) (by omega)
  simp only [List.length_set, List.length_append, l2]
  by_cases h1 : i < S.length + 1
  · rw [List.getElem?_append_left (by omega), List.getElem?_append_left (by omega)]
    unfold midP
    by_cases e1 : k = i
    · subst e1
      rw [if_pos rfl, if_pos (by omega), List.getElem?_append_right (by simp; omega), List.length_take, Nat.min_eq_left (by omega), Nat.sub_self]
      rfl
    · rw [if_neg e1]
      by_cases e2 : k + 1 = i
      · subst e2
        rw [if_pos rfl, if_pos (by omega), List.getElem?_append_right (by simp; omega), List.length_take, Nat.min_eq_left (by omega), show k + 1 - k = 1 by omega, List.getElem?_cons_succ, List.getElem?_drop, Nat.add_zero, hy]
      · rw [if_neg e2]
        by_cases e3 : i < k
        · rw [List.getElem?_append_left (by simp; omega), List.getElem?_append_left (by simp; omega), List.getElem?_take, List.getElem?_take, if_pos e3, if_pos (by omega)]
        · rw [List.getElem?_append_right (by simp; omega), List.getElem?_append_right (by simp; omega), List.length_take, List.length_take, Nat.min_eq_left (by omega), Nat.min_eq_left (by omega)]
          obtain ⟨j, hj⟩ : ∃ j, i = k + 2 + j := ⟨i - (k + 2), by omega⟩
          subst hj
          rw [show k + 2 + j - k = j + 1 + 1 by omega, show k + 2 + j - (k + 1) = j + 1 by omega, List.getElem?_cons_succ, List.getElem?_cons_succ, List.getElem?_drop, List.getElem?_drop]
          congr 1
          omega
  · rw [List.getElem?_append_right (by omega), List.getElem?_append_right (by omega), l1, l2, if_neg (by omega), if_neg (by omega)]
/-- Where it stops, it is sorted. -/
theorem midP_done {bl : List (List Rel)} {R : List Pc} {i k : Nat} {x : Pc} (hn : (R.map (·.first)).Nodup) (hx : R[i]? = some x) (hk : k ≤ (srtP bl (R.take i)).length)
    (hup : ∀ q ∈ (srtP bl (R.take i)).drop k, bef bl x q = true) (hlo : ∀ y, k ≠ 0 → (srtP bl (R.take i))[k - 1]? = some y → bef bl x y = false) : midP (srtP bl (R.take i)) x k = srtP bl (R.take (i + 1)) := by
  have hi := (List.getElem?_eq_some_iff.1 hx).1
  have e1 : R.take (i + 1) = R.take i ++ [x] := by rw [List.take_add_one, hx, Option.toList_some]
  have hn1 : ((R.take (i + 1)).map (·.first)).Nodup := by rw [List.map_take]; exact List.Sublist.nodup (List.take_sublist _ _) hn
  have hn0 : ((R.take i).map (·.first)).Nodup := by rw [List.map_take]; exact List.Sublist.nodup (List.take_sublist _ _) hn
  have hS := srtP_sorted bl (R.take i) hn0
  have hp := srtP_perm bl (R.take i)
  have hne : ∀ q ∈ srtP bl (R.take i), q.first ≠ x.first := by
    intro q hq
    have hq := hp.mem_iff.1 hq
    rw [e1, List.map_append, List.nodup_append] at hn1
    exact hn1.2.2 _ (List.mem_map_of_mem hq) _ (by simp)
  refine sorted_unique (bl := bl) ?_ ?_ (srtP_sorted bl _ hn1)
  · refine List.Perm.trans ?_ (srtP_perm bl _).symm
    rw [e1]
    unfold midP
    refine (List.perm_middle).trans ?_
    rw [List.take_append_drop]
    exact ((hp.cons x).trans (List.perm_append_comm (l₁ := [x]) (l₂ := R.take i)))
  · generalize srtP bl (R.take i) = S at *
    unfold midP
    rw [List.pairwise_append, List.pairwise_cons]
    rw [← List.take_append_drop k S, List.pairwise_append] at hS
    have hlow : ∀ a ∈ S.take k, bef bl a x = true := by
      intro a ha
      by_cases hk0 : k = 0
      · subst hk0; simp at ha
      · obtain ⟨y, hy⟩ : ∃ y, S[k - 1]? = some y := ⟨_, List.getElem?_eq_getElem (by omega)⟩
        have hyx := hlo y hk0 hy
        have hyx2 : bef bl y x = true := by
          rcases bef_total (bl := bl) (p := y) (q := x) (hne y (List.mem_of_getElem? hy)) with h | h
          · exact h
          · rw [hyx] at h; cases h
        obtain ⟨j, hj, rfl⟩ := List.getElem_of_mem ha
        have hjk : j < k := by simp at hj; omega
        by_cases e : j = k - 1
        · subst e
          rw [List.getElem_take]
          have := (List.getElem?_eq_some_iff.1 hy).2
          rw [this]
          exact hyx2
        · refine bef_trans ?_ hyx2
          have hpw := hS.1
          rw [List.pairwise_iff_getElem] at hpw
          have := hpw j (k - 1) hj (by simp; omega) (by omega)
          simp only [List.getElem_take] at this ⊢
          rw [(List.getElem?_eq_some_iff.1 hy).2] at this
          exact this
    refine ⟨hS.1, ⟨hup, hS.2.1⟩, fun a ha b hb => ?_⟩
    rcases List.mem_cons.1 hb with rfl | hb
    · exact hlow a ha
    · exact hS.2.2 a ha b hb
end Go.Proofs.YtckgapeednokjaaGreat
