import Derived.Test.YtmbkpfkkohpnkaaRo
set_option linter.unusedVariables false
set_option linter.unusedSimpArgs false
namespace Go.Proofs.Ytmbkpfkkohpnkaa
open Go Go.Proofs Go.RowKit

theorem infoI : (Try.prog.info? 3).map (fun i => (i.zero, i.size, i.bytes)) = some (some (.int .i64 0), 1, 8) := by kernel_rfl
theorem infoR : (Try.prog.info? 22).map (fun i => (i.zero, i.size, i.bytes)) = some (some (.slice none 0 0), 1, 24) := by kernel_rfl

/-- A new slice of ints. -/
def GivesInts (w : World) (l : List Int) (e : Ending) (w' : World) : Prop := ∃ A c, e = .returned (.slice A l.length c) ∧ w'.ownsRow w.heap.size 3 1 (.slice A l.length c) l.length (l.map (.int .i64)) ∧ Below w.heap.size w w'

set_option maxRecDepth 100000 in
theorem copy_any (v : Value) (l : List Int) (w : World) (hv : NumsAt .i64 w v l) (hl : l.length ≤ 1000000) : Calls Try.prog 30 #[v] w (GivesInts w l) := by
  obtain ⟨A, c, rfl, hc, hm⟩ := hv.form
  obtain ⟨i0, hi0, hz0, hz1, hz2⟩ := info_parts infoI
  have ho : w.ownsRow w.heap.size 3 1 (.slice none 0 0) 0 [] := World.ownsRow_nil _ _ _ _
  go_enter Try.func30, Try.ntmps30
  go_wp2_with (at_builtin; refine wpList_append_src _ rfl (.const (.slice none 0 0)) (.tmp 3) 22 rfl w.heap.size 3 i0 _ 1 8 Try.underlying22 hi0 hz0 hz1 hz2 rfl (by omega) _ 0 [] rfl ho A l.length c (l.map (.int .i64)) rfl (src_of_nums hv) (ints_one l) (by simp [maxLen]; omega) (by omega) (by simp) ?_; intro v1 w1 hown1 hg1 hat1)
  go_ret
  rw [Nat.zero_add, List.nil_append] at hown1
  obtain ⟨A1, c1, rfl⟩ := own_form hown1
  exact ⟨A1, c1, rfl, hown1, below_grown (Below.refl _ _) hg1 (by simp) ho (Nat.le_refl _)⟩

/-- Each element of a row of slices owns its ints. -/
def RowsOwn (w : World) (base : Nat) (us : List Value) (ll : List (List Int)) : Prop :=
  us.length = ll.length ∧ ∀ (j : Nat) (l : List Int), ll[j]? = some l → ∃ u, us[j]? = some u ∧ w.ownsRow base 3 1 u l.length (l.map (.int .i64))

theorem RowsOwn.kept {w w' : World} {base base' : Nat} {us : List Value} {ll : List (List Int)} {v : Value} {e : TypeId} {n : Nat} {xs : List Value} {size : Nat} (h : RowsOwn w base us ll) (hv : w.ownsRow base' e size v n xs) (hne : e ≠ 3)
    (hg : w.grownBy w' v.ownBlock) : RowsOwn w' base us ll :=
  ⟨h.1, fun j l hl => by
    obtain ⟨u, h1, h2⟩ := h.2 j l hl
    exact ⟨u, h1, h2.kept hg (own_apart h2 hv (Ne.symm hne))⟩⟩
theorem RowsOwn.below {w w' : World} {base : Nat} {us : List Value} {ll : List (List Int)} (h : RowsOwn w base us ll) (hb : Below w.heap.size w w') : RowsOwn w' base us ll :=
  ⟨h.1, fun j l hl => by
    obtain ⟨u, h1, h2⟩ := h.2 j l hl
    exact ⟨u, h1, own_below h2 hb⟩⟩
theorem RowsOwn.snoc {w : World} {base : Nat} {us : List Value} {ll : List (List Int)} {u : Value} {l : List Int} (h : RowsOwn w base us ll) (hu : w.ownsRow base 3 1 u l.length (l.map (.int .i64))) : RowsOwn w base (us ++ [u]) (ll ++ [l]) := by
  refine ⟨by simp [h.1], fun j l' hl => ?_⟩
  rw [List.getElem?_append] at hl
  split at hl
  · obtain ⟨x, h1, h2⟩ := h.2 j l' hl
    exact ⟨x, by rw [List.getElem?_append_left (by rw [h.1]; assumption)]; exact h1, h2⟩
  · rename_i hj
    have e : j = ll.length := by
      have := (List.getElem?_eq_some_iff.1 hl).1
      simp at this
      omega
    subst e
    simp at hl
    subst hl
    exact ⟨u, by rw [← h.1]; simp, hu⟩
theorem RowsOwn.mono {w : World} {base base' : Nat} {us : List Value} {ll : List (List Int)} (h : RowsOwn w base us ll) (hb : base' ≤ base) : RowsOwn w base' us ll :=
  ⟨h.1, fun j l hl => by
    obtain ⟨u, h1, h2⟩ := h.2 j l hl
    exact ⟨u, h1, own_mono h2 hb⟩⟩

theorem rows_of_own {w : World} {base base' : Nat} {e : TypeId} {v : Value} {n : Nat} {us : List Value} {ll : List (List Int)} (h : w.ownsRow base e 1 v n us) (hr : RowsOwn w base' us ll) : RowsAt w v ll := by
  have hn : ll.length = n := by rw [← hr.1]; simpa using h.1
  rcases h.2 with ⟨rfl, h0⟩ | ⟨g, cap, cur, rfl, _, hg, hc, hm, hs, ht⟩
  · have : ll.length = 0 := by omega
    exact ⟨none, 0, by rw [this], by omega, by simp [maxLen], fun hp => by omega⟩
  · refine ⟨some ⟨g, 0, none⟩, cap, by rw [hn], by omega, hm, fun hp => ⟨g, 0, rfl, fun k hk => ?_⟩⟩
    obtain ⟨u, h1, h2⟩ := hr.2 k ll[k] (List.getElem?_eq_getElem hk)
    refine ⟨u, ?_, ?_⟩
    · simp only [Nat.zero_add]
      rw [h.cellAt k (by omega), h1]
    · rw [List.getElem?_eq_getElem hk]
      exact nums_of_own h2

/-- A new slice of new slices of ints. -/
def GivesRows (w : World) (ll : List (List Int)) (e : Ending) (w' : World) : Prop :=
  ∃ A c us, e = .returned (.slice A ll.length c) ∧ w'.ownsRow w.heap.size 22 1 (.slice A ll.length c) ll.length us ∧ RowsOwn w' w.heap.size us ll ∧ Below w.heap.size w w'

end Go.Proofs.Ytmbkpfkkohpnkaa
