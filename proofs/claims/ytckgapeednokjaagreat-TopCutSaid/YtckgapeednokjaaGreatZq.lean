import Derived.Test.YtckgapeednokjaaGreatZo
import Derived.Test.YtckgapeednokjaaGreatK5
set_option linter.unusedVariables false
set_option linter.unusedSimpArgs false
namespace Go.Proofs.YtckgapeednokjaaGreat
open Go Go.Proofs Go.RowKit

/-! ### Tables in a list -/
theorem infoTT : (Tryz.prog.info? 45).map (fun i => (i.zero, i.size, i.bytes)) = some (some (.slice none 0 0), 1, 24) := by kernel_rfl
def TrIn (w : World) (base : Nat) (us : List Value) (T : List (List (List Int))) : Prop := us.length = T.length ∧ ∀ (j : Nat) (tt : List (List Int)), T[j]? = some tt → ∃ u vs, us[j]? = some u ∧ w.ownsRow base 29 1 u tt.length vs ∧ RowsOwn w base vs tt
theorem TrIn.below {w w' : World} {base : Nat} {us : List Value} {T : List (List (List Int))} (h : TrIn w base us T) (hb : Below w.heap.size w w') : TrIn w' base us T :=
  ⟨h.1, fun j l hl => by obtain ⟨u, vs, h1, h2, h3⟩ := h.2 j l hl; exact ⟨u, vs, h1, own_below h2 hb, h3.below hb⟩⟩
theorem TrIn.kept {w w' : World} {base base' n : Nat} {us xs : List Value} {v : Value} {T : List (List (List Int))} (h : TrIn w base us T) (hv : w.ownsRow base' 45 1 v n xs) (hg : w.grownBy w' v.ownBlock) : TrIn w' base us T :=
  ⟨h.1, fun j l hl => by obtain ⟨u, vs, h1, h2, h3⟩ := h.2 j l hl; exact ⟨u, vs, h1, h2.kept hg (own_apart h2 hv (by decide)), h3.kept hv (by decide) hg⟩⟩
theorem TrIn.snoc {w : World} {base : Nat} {us vs : List Value} {T : List (List (List Int))} {u : Value} {tt : List (List Int)} (h : TrIn w base us T) (hu : w.ownsRow base 29 1 u tt.length vs) (hv : RowsOwn w base vs tt) : TrIn w base (us ++ [u]) (T ++ [tt]) := by
  refine ⟨by simp [h.1], fun j l' hl => ?_⟩
  rw [List.getElem?_append] at hl
  split at hl
  · obtain ⟨x, ys, h1, h2⟩ := h.2 j l' hl
    exact ⟨x, ys, by rw [List.getElem?_append_left (by rw [h.1]; assumption)]; exact h1, h2⟩
  · rename_i hj
    have e : j = T.length := by
      have := (List.getElem?_eq_some_iff.1 hl).1
      simp at this
      omega
    subst e
    simp at hl
    subst hl
    exact ⟨u, vs, by rw [← h.1]; simp, hu, hv⟩
theorem TrIn.nil (w : World) (base : Nat) : TrIn w base [] [] := ⟨rfl, fun j l h => by simp at h⟩
theorem TrIn.at_ {w : World} {base : Nat} {us : List Value} {T : List (List (List Int))} {k : Nat} {tt : List (List Int)} (h : TrIn w base us T) (hk : T[k]? = some tt) : ∃ u, us[k]? = some u ∧ RowsAt w u tt := by
  obtain ⟨u, vs, h1, h2, h3⟩ := h.2 k tt hk
  exact ⟨u, h1, rows_of_own h2 h3⟩
/-- The tables of the tries so far. -/
structure Tries (d : DDay) (ps : List Pc) (b i : Nat) (T : List (List (List Int))) : Prop where
  true_ : ∀ tt ∈ T, truthB d.blocks tt = true
  wor : tabL d.blocks (worT d.blocks ps) ∈ T
  pre : ∀ c j, (c < b ∨ (c = b ∧ j < i)) → InDay d c j → tabL d.blocks (preT d.blocks c j) ∈ T
  few : T.length ≤ 3 + 2 * (b * 1000 + i)
theorem tries_more {d : DDay} {ps : List Pc} {b i : Nat} {T : List (List (List Int))} (hd : DayOk d) (h : Tries d ps b i T) (hi : InDay d b i) : Tries d ps b (i + 1) (T ++ [tabL d.blocks (strT d.blocks b i), tabL d.blocks (preT d.blocks b i)]) := by
  refine ⟨fun tt ht => ?_, List.mem_append_left _ h.wor, fun c j hc hj => ?_, by have := h.few; simp; omega⟩
  · rcases List.mem_append.1 ht with ht | ht
    · exact h.true_ tt ht
    · simp only [List.mem_cons, List.not_mem_nil, or_false] at ht
      rcases ht with rfl | rfl
      · exact truth_str hd b i
      · exact truth_pre hd hi
  · by_cases he : c = b ∧ j = i
    · obtain ⟨rfl, rfl⟩ := he
      simp
    · exact List.mem_append_left _ (h.pre c j (by omega) hj)
set_option maxRecDepth 100000 in
theorem tries_next {d : DDay} {ps : List Pc} {b i : Nat} {T : List (List (List Int))} (h : Tries d ps b i T) (hi : i = (d.blocks[b]?.getD []).length) (hl : i ≤ 1000) : Tries d ps (b + 1) 0 T := by
  refine ⟨h.true_, h.wor, fun c j hc hj => h.pre c j ?_ hj, ?_⟩
  rotate_left
  · have h1 := h.few
    have h2 : (b + 1) * 1000 = b * 1000 + 1000 := by rw [Nat.add_mul, Nat.one_mul]
    rw [h2]
    omega
  by_cases he : c = b
  · right
    refine ⟨he, ?_⟩
    have := hj.2
    rw [he] at this
    omega
  · omega
theorem obeys_at {d : DDay} {ps : List Pc} (hps : ∀ p ∈ ps, InDay d p.b p.fr ∧ InDay d p.b p.to) (t : Nat → Nat → Int) : obeysB d (tabT (tabL d.blocks t)) (tabT (tabL d.blocks t)) ps = obeysB d t t ps := by
  have key : ∀ (u v : Nat → Nat → Int), (∀ p ∈ ps, u p.b p.fr = v p.b p.fr ∧ u p.b p.to = v p.b p.to) → obeysB d u u ps = true → obeysB d v v ps = true := fun u v huv h => by
    have he : ∀ qs : List Pc, (∀ p ∈ qs, p ∈ ps) → Easier d d u u v v id qs := fun qs hq => ⟨Int.le_refl _, Int.le_refl _, Int.le_refl _, Int.le_refl _, Int.le_refl _, Int.le_refl _, Int.le_refl _, fun p hp => by rw [id, (huv p (hq p hp)).1]; exact Int.le_refl _,
      fun p hp => by rw [id, (huv p (hq p hp)).2]; exact Int.le_refl _, fun p _ q _ => Int.le_refl _⟩
    by_cases h0 : ps = []
    · subst h0
      have : ∀ u : Nat → Nat → Int, obeysB d u u [] = obeysB d (fun _ _ => 0) (fun _ _ => 0) [] := fun u => rfl
      rw [this v, ← this u]
      exact h
    · have := easier_obeys (he ps fun p hp => hp) h0 h
      rwa [List.map_id] at this
  have hT : ∀ p ∈ ps, tabT (tabL d.blocks t) p.b p.fr = t p.b p.fr ∧ tabT (tabL d.blocks t) p.b p.to = t p.b p.to := fun p hp => ⟨tabL_at (hps p hp).1.1 (hps p hp).1.2, tabL_at (hps p hp).2.1 (hps p hp).2.2⟩
  rw [Bool.eq_iff_iff]
  exact ⟨key _ _ hT, key _ _ fun p hp => ⟨(hT p hp).1.symm, (hT p hp).2.symm⟩⟩
/-- Some of the tries breaks it. -/
theorem tries_break {d : DDay} {l : List Nat} {T : List (List (List Int))} (hd : DayOk d) (hl : IsDuty d l) (hn : legalL d l = false) (h : Tries d (piecesL d l) d.blocks.length 0 T) : ∃ tt ∈ T, obeysB d (tabT tt) (tabT tt) (piecesL d l) = false := by
  have hps := (duty_pcs hd hl).2
  rcases broken_some hd hl hn with hb | ⟨p, hp, hb⟩
  · exact ⟨_, h.wor, by rw [obeys_at hps]; exact hb⟩
  · exact ⟨_, h.pre p.b p.to (.inl (hps p hp).2.1) (hps p hp).2, by rw [obeys_at hps]; exact hb⟩
end Go.Proofs.YtckgapeednokjaaGreat
