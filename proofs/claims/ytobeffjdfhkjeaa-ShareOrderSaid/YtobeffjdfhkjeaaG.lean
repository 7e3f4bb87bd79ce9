import Derived.Test.YtobeffjdfhkjeaaF
set_option linter.unusedVariables false
set_option linter.unusedSimpArgs false
namespace Go.Proofs.Ytobeffjdfhkjeaa
open Go Go.Proofs Go.RowKit

theorem listsB_row {n : Int} {m : Nat} {ll : List (List Int)} {k : Nat} {l : List Int} (hl : ll[k]? = some l) (h : rowB n l = false) : listsB n m ll = false := by
  unfold listsB
  rw [not_all_of hl (by simpa [rowB] using h)]
  simp
theorem listsB_end {n : Int} {m : Nat} {ll : List (List Int)} (h : ∀ (j : Nat) (l : List Int), j < ll.length → ll[j]? = some l → rowB n l = true) : listsB n m ll = decide (ll.length = m) := by
  unfold listsB
  rw [all_of fun j l hj hl => by simpa [rowB] using h j l hj hl]
  simp
theorem listsB_iff {n : Int} {m : Nat} {ll : List (List Int)} : listsB n m ll = true ↔ ll.length = m ∧ ∀ (j : Nat) (l : List Int), ll[j]? = some l → rowB n l = true := by
  constructor
  · intro h
    unfold listsB at h
    simp only [Bool.and_eq_true, decide_eq_true_eq] at h
    refine ⟨h.1, fun j l hl => ?_⟩
    have := List.all_eq_true.1 h.2 l (List.mem_of_getElem? hl)
    simpa [rowB] using this
  · rintro ⟨h1, h2⟩
    rw [listsB_end fun j l _ hl => h2 j l hl]
    simpa using h1
theorem rowB_iff {n : Int} {l : List Int} : rowB n l = true ↔ (l.length : Int) = n ∧ ∀ (j : Nat) (x : Int), l[j]? = some x → 0 ≤ x ∧ x ≤ 400 := by
  unfold rowB
  simp only [Bool.and_eq_true, decide_eq_true_eq]
  constructor
  · rintro ⟨h1, h2⟩
    exact ⟨h1, fun j x hx => inB_iff.1 (List.all_eq_true.1 h2 x (List.mem_of_getElem? hx))⟩
  · rintro ⟨h1, h2⟩
    exact ⟨h1, all_of fun j x _ hx => inB_iff.2 (h2 j x hx)⟩
theorem rowB_ok {n : Int} {l : List Int} (hn : n ≤ 5) (h : rowB n l = true) : SumOk l := by
  obtain ⟨h1, h2⟩ := rowB_iff.1 h
  refine sumOk_of (by omega) fun x hm => ?_
  obtain ⟨j, hj, rfl⟩ := List.getElem_of_mem hm
  have := h2 j _ (List.getElem?_eq_getElem hj)
  omega

set_option maxRecDepth 100000 in
set_option maxHeartbeats 800000 in
theorem Lists_any (n : Int) (v u : Value) (ss : List Strat) (ll : List (List Int)) (w : World) (hv : StrataAt w v ss) (hu : RowsAt w u ll) :
    Calls Try.prog 35 #[.agg #[.int .i64 n, v], u] w (Gives w (.bool (listsB n ss.length ll))) := by
  obtain ⟨A, c, rfl, hc, hm⟩ := hv.form
  obtain ⟨A', c', rfl, hc', hm'⟩ := hu.form
  go_enter Try.func35, Try.ntmps35
  go_wp2
  go_loopw [5] (fun i wr => ∃ k : Nat, k ≤ ll.length ∧ i = .int .i64 k ∧ Below w.heap.size w wr ∧ w.heap.size < wr.heap.size ∧ wr.cell? ⟨w.heap.size, 0, none⟩ = some (.int .i64 n) ∧
      wr.cell? ⟨w.heap.size, 1, none⟩ = some (.slice A ss.length c) ∧ ∀ (j : Nat) (l : List Int), j < k → ll[j]? = some l → rowB n l = true) (fun i wr => ll.length - (intOf i).toNat)
  case atStart => exact ⟨0, by omega, rfl, (Below.refl _ _).alloc (Nat.le_refl _) _, by simp, by simp [go_sem], by simp [go_sem], by intro j l h; omega⟩
  case round =>
    obtain ⟨k, hk, rfl, hb, hlt0, f0, f1, hall⟩ := hrel
    have Hall := Lib.hid hall
    clear hall
    by_cases hlt : k < ll.length
    · obtain ⟨b, o, l, x, rfl, hl, dl, hx, hbw⟩ := (hu.below hb).at_ hlt
      obtain ⟨B, C, rfl, hC, hC'⟩ := hx.form
      have Hl := Lib.hid hl
      clear hl
      have i0 : (0 : Int) ≤ (k : Int) := by omega
      have i1 : (k : Int) < (ll.length : Int) := by omega
      have dl' := Later.cell dl
      have g0 := Later.cell f0
      by_cases e : ((l.length : Int) != n) = false
      · go_wp2_with fail
        refine wp_region_later (by kernel_rfl) (by kernel_rfl) ?_
        repeat (go_big_quiet_step (fail))
        refine wpQuiet_nil ?_
        intro w2 hx2
        have hb2 := Later.out hx2
        clear hx2 dl' g0
        have hx2 := hx.below hb2
        have dl2 := cell_below hb2 dl
        go_wp2
        go_loop [6] (fun i => ∃ j : Nat, j ≤ l.length ∧ i = .int .i64 j ∧ ∀ (t : Nat) (y : Int), t < j → l[t]? = some y → inB y 0 400 = true) (fun i => l.length - (intOf i).toNat)
        case atStart => exact ⟨0, by omega, rfl, by intro t y h; omega⟩
        case round =>
          obtain ⟨j, hj, rfl, hy⟩ := hrel
          have Hy := Lib.hid hy
          clear hy
          by_cases hlt1 : j < l.length
          · obtain ⟨b', o', y, rfl, hy, dy, _⟩ := hx2.at_ hlt1
            have Hyy := Lib.hid hy
            clear hy
            go_wp2_with (go_at_call 40; refine (In_same _ _ _ _).mono ?_; rintro e w' ⟨rfl, rfl⟩)
            · have q : (!inB y 0 400) = true := by assumption
              go_ret
              refine gives_bool (listsB_row Hl.out ?_).symm (hb.trans (hb2.mono hb.size))
              rw [Bool.eq_false_iff]
              intro h
              have := inB_iff.2 ((rowB_iff.1 h).2 j y Hyy.out)
              rw [this] at q
              cases q
            · have q : (!inB y 0 400) = false := by assumption
              go_round
              case rel =>
                refine ⟨j + 1, by omega, by go_num, fun t z ht hz => ?_⟩
                by_cases e : t = j
                · subst e
                  rw [Hyy.out] at hz
                  cases hz
                  simpa using q
                · exact Hy.out t z (by omega) hz
              case measure => simp [intOf]; omega
          · go_wp2
            go_roundw
            case rel =>
              refine ⟨k + 1, by omega, by go_num, hb.trans (hb2.mono hb.size), Nat.lt_of_lt_of_le hlt0 hb2.size, cell_below hb2 f0, cell_below hb2 f1, fun t z ht hz => ?_⟩
              by_cases e' : t = k
              · subst e'
                rw [Hl.out] at hz
                cases hz
                refine rowB_iff.2 ⟨by simpa using e, fun t x hx => inB_iff.1 (Hy.out t x (by have := (List.getElem?_eq_some_iff.1 hx).1; omega) hx)⟩
              · exact Hall.out t z (by omega) hz
            case measure => simp [intOf]; omega
      · have e1 : ((l.length : Int) != n) = true := by simpa using e
        clear e
        go_wp2_with fail
        refine wp_region_later (by kernel_rfl) (by kernel_rfl) ?_
        repeat (go_big_quiet_step (fail))
        refine wpQuiet_nil ?_
        intro w2 hx2
        have hb2 := Later.out hx2
        clear hx2 dl' g0
        go_wp2
        go_ret
        refine gives_bool (listsB_row Hl.out ?_).symm (hb.trans (hb2.mono hb.size))
        rw [Bool.eq_false_iff]
        intro h
        have := (rowB_iff.1 h).1
        simp [this] at e1
    · go_wp2
      go_ret
      refine gives_bool ?_ hb
      rw [listsB_end fun j l hj hl => Hall.out j l (by omega) hl]
      rw [Bool.eq_iff_iff]; simp; omega
end Go.Proofs.Ytobeffjdfhkjeaa
