import Derived.Test.YtllobkhdeahgpaaY3
set_option linter.unusedVariables false
set_option linter.unusedSimpArgs false
namespace Go.Proofs.Ytllobkhdeahgpaa
open Go Go.Proofs Go.RowKit

/-! ### Rows that lie apart -/
def GivesRowsA (w : World) (ll : List (List Int)) (e : Ending) (w' : World) : Prop :=
  ∃ A c us, e = .returned (.slice A ll.length c) ∧ w'.ownsRow w.heap.size 28 1 (.slice A ll.length c) ll.length us ∧ RowsOwn w' w.heap.size us ll ∧ us.Pairwise Apart ∧ Below w.heap.size w w'
theorem apart_snoc {w w' : World} {base : Nat} {us : List Value} {ll : List (List Int)} {e : TypeId} {size n : Nat} {v : Value} {xs : List Value} (h : us.Pairwise Apart) (hr : RowsOwn w base us ll) (hv : w'.ownsRow w.heap.size e size v n xs) : (us ++ [v]).Pairwise Apart := by
  refine List.pairwise_append.2 ⟨h, by simp, fun a ha b hb => ?_⟩
  obtain rfl : b = v := by simpa using hb
  obtain ⟨j, hj, rfl⟩ := List.getElem_of_mem ha
  have hjl : j < ll.length := by rw [← hr.1]; exact hj
  obtain ⟨u, h1, h2⟩ := hr.2 j _ (List.getElem?_eq_getElem hjl)
  rw [List.getElem?_eq_getElem hj] at h1
  cases h1
  intro g hg hb2
  have a1 := h2.lt g hg
  have a2 := hv.lt g hb2
  omega
theorem RowsOwn.stored {w : World} {base : Nat} {us : List Value} {ll : List (List Int)} {r g n c k : Nat} {row : List Int} {x : Int} (h : RowsOwn w base us ll) (ha : us.Pairwise Apart) (hu : us[r]? = some (.slice (some ⟨g, 0, none⟩) n c)) (hl : ll[r]? = some row) :
    RowsOwn (w.setCell ⟨g, k, none⟩ (.int .i64 x)) base us (ll.set r (row.set k x)) := by
  refine ⟨by rw [List.length_set]; exact h.1, fun j l hj => ?_⟩
  rw [List.getElem?_set] at hj
  by_cases e : r = j
  · subst e
    rw [if_pos rfl] at hj
    split at hj
    · cases hj
      obtain ⟨u, h1, h2⟩ := h.2 r row hl
      rw [hu] at h1
      cases h1
      have h3 := h2
      have hn : row.length = n := by
        rcases h2.2 with ⟨e1, _⟩ | ⟨g', cap, cur, e1, _⟩
        · cases e1
        · cases e1; rfl
      subst hn
      refine ⟨_, hu, ?_⟩
      have := (h3.stored k (.int .i64 x)).1
      rw [List.length_set, List.map_set]
      exact this
    · cases hj
  · rw [if_neg e] at hj
    obtain ⟨u, h1, h2⟩ := h.2 j l hj
    refine ⟨u, h1, own_set h2 ?_ _⟩
    intro e2
    have hr := (List.getElem?_eq_some_iff.1 hu)
    have hjj := (List.getElem?_eq_some_iff.1 h1)
    obtain ⟨k1, k2⟩ := hr
    obtain ⟨k3, k4⟩ := hjj
    have hp := List.pairwise_iff_getElem.1 ha
    rcases Nat.lt_or_gt_of_ne e with hlt | hlt
    · have := hp r j k1 k3 hlt
      rw [k2, k4] at this
      exact this g rfl e2.symm
    · have := hp j r k3 k1 hlt
      rw [k2, k4] at this
      exact this g e2.symm rfl
theorem rows_apart (v : Value) (ll : List (List Int)) (w : World) (hv : RowsAt w v ll) (hl : ll.length ≤ 1000) (hll : ∀ (j : Nat) (l : List Int), ll[j]? = some l → l.length ≤ 1000) : Calls Try.prog 25 #[v] w (GivesRowsA w ll) := by
  obtain ⟨A, c, rfl, hc, hm⟩ := hv.form
  obtain ⟨i0, hi0, hz0, hz1, hz2⟩ := info_parts infoR
  have Hll := Lib.hid hll
  clear hll
  go_enter Try.func25, Try.ntmps25
  go_wp2
  go_loopw [3, 4] (fun x i wr => ∃ (k : Nat) (A' : Option Addr) (c' : Nat) (us : List Value), k ≤ ll.length ∧ i = .int .i64 k ∧ x = .slice A' k c' ∧ Below w.heap.size w wr ∧ wr.ownsRow w.heap.size 28 1 (.slice A' k c') k us ∧
      RowsOwn wr w.heap.size us (ll.take k) ∧ us.Pairwise Apart) (fun x i wr => ll.length - (intOf i).toNat)
  case atStart => exact ⟨0, none, 0, [], by omega, rfl, rfl, Below.refl _ _, World.ownsRow_nil _ _ _ _, ⟨by simp, by intro j l h; simp at h⟩, List.Pairwise.nil⟩
  case round =>
    obtain ⟨k, A', c', us, hk, rfl, rfl, hb, hown, hro, hap⟩ := hrel
    have Hap := Lib.hid hap
    have hszr := hb.size
    clear hap
    by_cases hlt : k < ll.length
    · obtain ⟨b, o, l, x, rfl, hl, dl, hx, _⟩ := (hv.below hb).at_ hlt
      have hl1 := Hll.out k l hl
      have Hl := Lib.hid hl
      clear hl
      have Hro := Lib.hid hro
      clear hro
      obtain ⟨B, C, rfl, hC, hC'⟩ := hx.form
      go_wp2_with (first
        | (go_at_call 17; refine (copy_any _ l _ hx (by omega)).mono ?_; rintro e w1 ⟨A1, c1, rfl, hox, hb1⟩; have hown1 := own_below hown hb1)
        | (at_builtin; refine wpList_append_src _ rfl (.tmp 11) (.tmp 17) 25 rfl w.heap.size 28 i0 _ 1 24 Try.underlying25 hi0 hz0 hz1 hz2 rfl (by omega) _ k us rfl (hown1.alloc _) (some ⟨w1.heap.size, 0, none⟩) 1 1 [.slice A1 l.length c1] rfl (src_new w1 [.slice A1 l.length c1] 28 1 1 rfl) (by simp [Value.oneCell']) (by simp [maxLen]; omega) (by omega) (by have := hb.size; have := hb1.size; simp; omega) ?_; intro v2 w2 hown2 hg2 hat2; obtain ⟨A2, c2, rfl⟩ := own_form hown2))
      have hbw1 : Below w.heap.size w w1 := hb.trans (hb1.mono hb.size)
      have hba : Below w.heap.size w (w1.alloc (.cells #[.slice A1 l.length c1] 28)) := hbw1.alloc hbw1.size _
      have hg3 : (w1.alloc (.cells #[.slice A1 l.length c1] 28)).grownBy w2 (Value.slice A' k c').ownBlock := hg2
      clear hg2
      go_roundw
      case rel =>
        refine ⟨k + 1, A2, c2, us ++ [.slice A1 l.length c1], by omega, by go_num, rfl, below_grown hba hg3 (by have := hbw1.size; simp; omega) (hown1.alloc _) (Nat.le_refl _), hown2, ?_, apart_snoc Hap.out Hro.out hox⟩
        rw [List.take_add_one, Hl.out]
        have h1 : RowsOwn (w1.alloc (.cells #[.slice A1 l.length c1] 28)) w.heap.size us (ll.take k) := (Hro.out.below hb1).below ((Below.refl _ _).alloc (Nat.le_refl _) _)
        exact (h1.kept (hown1.alloc _) (by decide) hg3).snoc (((own_mono hox hb.size).alloc _).kept hg3 (own_apart hox hown1 (by decide)))
      case measure => simp [intOf]; omega
    · have : k = ll.length := by omega
      subst this
      go_wp2
      go_ret
      rw [List.take_length] at hro
      exact ⟨A', c', us, rfl, hown, hro, Hap.out, hb⟩

end Go.Proofs.Ytllobkhdeahgpaa
