import Derived.Test.YtobeffjdfhkjeaaW2
import Derived.Test.YtobeffjdfhkjeaaMa
set_option linter.unusedVariables false
set_option linter.unusedSimpArgs false
namespace Go.Proofs.Ytobeffjdfhkjeaa
open Go Go.Proofs Go.RowKit

theorem info3 : (Try.prog.info? 3).map (fun i => (i.zero, i.size, i.bytes)) = some (some (.int .i64 0), 1, 8) := by kernel_rfl
theorem info35 : (Try.prog.info? 35).map (fun i => (i.zero, i.size, i.bytes)) = some (some (.slice none 0 0), 1, 24) := by kernel_rfl

/-- A new slice of ints. -/
def GivesInts (w : World) (l : List Int) (e : Ending) (w' : World) : Prop := ∃ A c, e = .returned (.slice A l.length c) ∧ w'.ownsRow w.heap.size 3 1 (.slice A l.length c) l.length (l.map (.int .i64)) ∧ Below w.heap.size w w'

theorem list_any (v : Value) (l : List Int) (w : World) (hv : NumsAt .i64 w v l) (hl : l.length ≤ 1000000) : Calls Try.prog 31 #[v] w (GivesInts w l) := by
  obtain ⟨A, c, rfl, hc, hm⟩ := hv.form
  obtain ⟨i0, hi0, hz0, hz1, hz2⟩ := info_parts info3
  have hb0 : Below w.heap.size w (w.alloc (.cells #[] 3)) := (Below.refl _ _).alloc (Nat.le_refl _) _
  have ho : (w.alloc (.cells #[] 3)).ownsRow w.heap.size 3 1 (.slice (some ⟨w.heap.size, 0, none⟩) 0 0) 0 [] := World.ownsRow_lit w #[] 0 (Nat.le_refl _) (by simp [maxLen]) (by simp)
  go_enter Try.func31, Try.ntmps31
  go_wp2_with (at_builtin; refine wpList_append_src _ rfl (.tmp 3) (.tmp 4) 35 rfl w.heap.size 3 i0 _ 1 8 Try.underlying35 hi0 hz0 hz1 hz2 rfl (by omega) _ 0 [] rfl ho A l.length c (l.map (.int .i64)) rfl (src_of_nums (hv.below hb0)) (ints_one l) (by simp [maxLen]; omega) (by omega) (by simp) ?_; intro v1 w1 hown1 hg1 hat1)
  go_ret
  rw [Nat.zero_add, List.nil_append] at hown1
  obtain ⟨A1, c1, rfl⟩ := own_form hown1
  exact ⟨A1, c1, rfl, hown1, below_grown hb0 hg1 (by simp) ho (Nat.le_refl _)⟩

/-- Each element of a row of slices owns its ints. -/
def RowsOwn (w : World) (base : Nat) (us : List Value) (ll : List (List Int)) : Prop :=
  us.length = ll.length ∧ ∀ (j : Nat) (l : List Int), ll[j]? = some l → ∃ u, us[j]? = some u ∧ w.ownsRow base 3 1 u l.length (l.map (.int .i64))

theorem RowsOwn.kept {w w' : World} {base base' : Nat} {us : List Value} {ll : List (List Int)} {v : Value} {e : TypeId} {n : Nat} {xs : List Value} {size : Nat} (h : RowsOwn w base us ll) (hv : w.ownsRow base' e size v n xs) (hne : e ≠ 3)
    (hg : w.grownBy w' v.ownBlock) : RowsOwn w' base us ll :=
  ⟨h.1, fun j l hl => by
    obtain ⟨u, h1, h2⟩ := h.2 j l hl
    exact ⟨u, h1, h2.kept hg (own_apart h2 hv (Ne.symm hne))⟩⟩
theorem RowsOwn.below {w w' : World} {base : Nat} {us : List Value} {ll : List (List Int)} (h : RowsOwn w base us ll) (hb : Below w.heap.size w w') : RowsOwn w' base us ll :=
  ⟨h.1, fun j l hl => by
    obtain ⟨u, h1, h2⟩ := h.2 j l hl
    exact ⟨u, h1, own_below h2 hb⟩⟩
theorem RowsOwn.snoc {w : World} {base : Nat} {us : List Value} {ll : List (List Int)} {u : Value} {l : List Int} (h : RowsOwn w base us ll) (hu : w.ownsRow base 3 1 u l.length (l.map (.int .i64))) : RowsOwn w base (us ++ [u]) (ll ++ [l]) := by
  refine ⟨by simp [h.1], fun j l' hl => ?_⟩
  rw [List.getElem?_append] at hl
  split at hl
  · obtain ⟨x, h1, h2⟩ := h.2 j l' hl
    exact ⟨x, by rw [List.getElem?_append_left (by rw [h.1]; assumption)]; exact h1, h2⟩
  · rename_i hj
    have e : j = ll.length := by
      have := (List.getElem?_eq_some_iff.1 hl).1
      simp at this
      omega
    subst e
    simp at hl
    subst hl
    exact ⟨u, by rw [← h.1]; simp, hu⟩
theorem RowsOwn.mono {w : World} {base base' : Nat} {us : List Value} {ll : List (List Int)} (h : RowsOwn w base us ll) (hb : base' ≤ base) : RowsOwn w base' us ll :=
  ⟨h.1, fun j l hl => by
    obtain ⟨u, h1, h2⟩ := h.2 j l hl
    exact ⟨u, h1, own_mono h2 hb⟩⟩

theorem rows_of_own {w : World} {base base' : Nat} {e : TypeId} {v : Value} {n : Nat} {us : List Value} {ll : List (List Int)} (h : w.ownsRow base e 1 v n us) (hr : RowsOwn w base' us ll) : RowsAt w v ll := by
  have hn : ll.length = n := by rw [← hr.1]; simpa using h.1
  rcases h.2 with ⟨rfl, h0⟩ | ⟨g, cap, cur, rfl, _, hg, hc, hm, hs, ht⟩
  · have : ll.length = 0 := by omega
    exact ⟨none, 0, by rw [this], by omega, by simp [maxLen], fun hp => by omega⟩
  · refine ⟨some ⟨g, 0, none⟩, cap, by rw [hn], by omega, hm, fun hp => ⟨g, 0, rfl, fun k hk => ?_⟩⟩
    obtain ⟨u, h1, h2⟩ := hr.2 k ll[k] (List.getElem?_eq_getElem hk)
    refine ⟨u, ?_, ?_⟩
    · simp only [Nat.zero_add]
      rw [h.cellAt k (by omega), h1]
    · rw [List.getElem?_eq_getElem hk]
      exact nums_of_own h2

/-- A new slice of new slices of ints. -/
def GivesRows (w : World) (ll : List (List Int)) (e : Ending) (w' : World) : Prop :=
  ∃ A c us, e = .returned (.slice A ll.length c) ∧ w'.ownsRow w.heap.size 35 1 (.slice A ll.length c) ll.length us ∧ RowsOwn w' w.heap.size us ll ∧ Below w.heap.size w w'

theorem rows_any (v : Value) (ll : List (List Int)) (w : World) (hv : RowsAt w v ll) (hl : ll.length ≤ 1000) (hll : ∀ (j : Nat) (l : List Int), ll[j]? = some l → l.length ≤ 1000) : Calls Try.prog 22 #[v] w (GivesRows w ll) := by
  obtain ⟨A, c, rfl, hc, hm⟩ := hv.form
  obtain ⟨i0, hi0, hz0, hz1, hz2⟩ := info_parts info35
  have Hll := Lib.hid hll
  clear hll
  go_enter Try.func22, Try.ntmps22
  go_wp2
  go_loopw [3, 4] (fun x i wr => ∃ (k : Nat) (A' : Option Addr) (c' : Nat) (us : List Value), k ≤ ll.length ∧ i = .int .i64 k ∧ x = .slice A' k c' ∧ Below w.heap.size w wr ∧ wr.ownsRow w.heap.size 35 1 (.slice A' k c') k us ∧
      RowsOwn wr w.heap.size us (ll.take k)) (fun x i wr => ll.length - (intOf i).toNat)
  case atStart => exact ⟨0, none, 0, [], by omega, rfl, rfl, Below.refl _ _, World.ownsRow_nil _ _ _ _, ⟨by simp, by intro j l h; simp at h⟩⟩
  case round =>
    obtain ⟨k, A', c', us, hk, rfl, rfl, hb, hown, hro⟩ := hrel
    by_cases hlt : k < ll.length
    · obtain ⟨b, o, l, x, rfl, hl, dl, hx, _⟩ := (hv.below hb).at_ hlt
      have hl1 := Hll.out k l hl
      have Hl := Lib.hid hl
      clear hl
      have Hro := Lib.hid hro
      clear hro
      obtain ⟨B, C, rfl, hC, hC'⟩ := hx.form
      go_wp2_with (first
        | (go_at_call 31; refine (list_any _ l _ hx (by omega)).mono ?_; rintro e w1 ⟨A1, c1, rfl, hox, hb1⟩; have hown1 := own_below hown hb1)
        | (at_builtin; refine wpList_append_src _ rfl (.tmp 11) (.tmp 17) 25 rfl w.heap.size 35 i0 _ 1 24 Try.underlying25 hi0 hz0 hz1 hz2 rfl (by omega) _ k us rfl (hown1.alloc _) (some ⟨w1.heap.size, 0, none⟩) 1 1 [.slice A1 l.length c1] rfl (src_new w1 [.slice A1 l.length c1] 35 1 1 rfl) (by simp [Value.oneCell']) (by simp [maxLen]; omega) (by omega) (by have := hb.size; have := hb1.size; simp; omega) ?_; intro v2 w2 hown2 hg2 hat2; obtain ⟨A2, c2, rfl⟩ := own_form hown2))
      have hbw1 : Below w.heap.size w w1 := hb.trans (hb1.mono hb.size)
      have hba : Below w.heap.size w (w1.alloc (.cells #[.slice A1 l.length c1] 35)) := hbw1.alloc hbw1.size _
      have hg3 : (w1.alloc (.cells #[.slice A1 l.length c1] 35)).grownBy w2 (Value.slice A' k c').ownBlock := hg2
      clear hg2
      go_roundw
      case rel =>
        refine ⟨k + 1, A2, c2, us ++ [.slice A1 l.length c1], by omega, by go_num, rfl, below_grown hba hg3 (by have := hbw1.size; simp; omega) (hown1.alloc _) (Nat.le_refl _), hown2, ?_⟩
        rw [List.take_add_one, Hl.out]
        have h1 : RowsOwn (w1.alloc (.cells #[.slice A1 l.length c1] 35)) w.heap.size us (ll.take k) := (Hro.out.below hb1).below ((Below.refl _ _).alloc (Nat.le_refl _) _)
        exact (h1.kept (hown1.alloc _) (by decide) hg3).snoc (((own_mono hox hb.size).alloc _).kept hg3 (own_apart hox hown1 (by decide)))
      case measure => simp [intOf]; omega
    · have : k = ll.length := by omega
      subst this
      go_wp2
      go_ret
      rw [List.take_length] at hro
      exact ⟨A', c', us, rfl, hown, hro, hb⟩
end Go.Proofs.Ytobeffjdfhkjeaa
