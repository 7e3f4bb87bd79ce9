import Derived.Test.YtobeffjdfhkjeaaB
import Derived.Test.YtobeffjdfhkjeaaP
set_option linter.unusedVariables false
set_option linter.unusedSimpArgs false
namespace Go.Proofs.Ytobeffjdfhkjeaa
open Go Go.Proofs Go.RowKit

set_option maxRecDepth 100000 in
set_option maxHeartbeats 1600000 in
theorem Fault_any (n : Int) (v : Value) (ss : List Strat) (w : World) (hv : StrataAt w v ss) :
    Calls Try.prog 32 #[.agg #[.int .i64 n, v]] w (Gives w (.int .i64 (faultI n ss))) := by
  have hb0 : Below w.heap.size w (w.alloc (.cells #[.int .i64 n, v] 24)) := (Below.refl _ _).alloc (Nat.le_refl _) _
  obtain ⟨A, c, rfl, hc, hm, hT⟩ := hv
  unfold maxLen at hm
  by_cases h8 : 8 < ss.length
  · rw [fault_many h8]
    clear hT
    go_enter Try.func32, Try.ntmps32
    go_wp2
    go_ret
    exact ⟨rfl, hb0⟩
  cases h1 : inB n 1 5 with
  | false =>
    rw [fault_n h8 h1]
    clear hT
    go_enter Try.func32, Try.ntmps32
    go_wp2_with (go_at_call 40; refine (Same.to h1 (In_same _ _ _ _)).mono ?_; rintro e w' ⟨rfl, rfl⟩)
    go_ret
    exact ⟨rfl, hb0⟩
  | true =>
    have hn := inB_iff.1 h1
    have HT := Lib.hid hT
    clear hT
    go_enter Try.func32, Try.ntmps32
    go_wp2_with (go_at_call 40; refine (Same.to h1 (In_same _ _ _ _)).mono ?_; rintro e w' ⟨rfl, rfl⟩)
    go_loopw [3] (fun i wr => ∃ k : Nat, k ≤ ss.length ∧ i = .int .i64 k ∧ Below w.heap.size w wr ∧ w.heap.size < wr.heap.size ∧ wr.cell? ⟨w.heap.size, 0, none⟩ = some (.int .i64 n) ∧
        wr.cell? ⟨w.heap.size, 1, none⟩ = some (.slice A ss.length c) ∧ ∀ (j : Nat) (s : Strat), j < k → ss[j]? = some s → stratB n s = true) (fun i wr => ss.length - (intOf i).toNat)
    case atStart => exact ⟨0, by omega, rfl, hb0, by simp, by simp [go_sem], by simp [go_sem], by intro j s h; omega⟩
    case round =>
      obtain ⟨k, hk, rfl, hb, hlt0, hc0, hc1, hall⟩ := hrel
      have Hall := Lib.hid hall
      clear hall
      by_cases hlt : k < ss.length
      · obtain ⟨b, o, rfl, hT⟩ := HT.out (by omega)
        obtain ⟨s, hs⟩ : ∃ s, ss[k]? = some s := ⟨_, List.getElem?_eq_getElem hlt⟩
        obtain ⟨u, hu, d0, d1, d2, d3⟩ := hT k s hs
        have Hs := Lib.hid hs
        have hbw := World.block_lt_of_cell? _ _ d0
        replace hu := hu.below hb
        replace d0 := cell_below hb d0
        replace d1 := cell_below hb d1
        replace d2 := cell_below hb d2
        replace d3 := cell_below hb d3
        have hu0 := hu
        obtain ⟨A', c', rfl, hc', hm', hU⟩ := hu
        have HU := Lib.hid hU
        unfold maxLen at hm'
        clear hs hT hU
        by_cases q1 : inB s.coins 0 10000000 = true
        · by_cases q2 : inB s.lo 0 s.hi = true
          · by_cases q3 : s.hi ≤ 400
            · by_cases q4 : ((s.seen.length : Int) != n) = false
              · have Q : Hid ((0 ≤ s.coins ∧ s.coins ≤ 10000000) ∧ 0 ≤ s.lo ∧ s.lo ≤ s.hi ∧ s.hi ≤ 400 ∧ (s.seen.length : Int) = n) :=
                  ⟨inB_iff.1 q1, (inB_iff.1 q2).1, (inB_iff.1 q2).2, q3, by simpa using q4⟩
                have q5 : (s.seen.length : Int) ≤ 5 := by have := Q.out.2.2.2.2; omega
                go_wp2_with (go_at_call 40; refine (In_same _ _ _ _).mono ?_; rintro e w' ⟨rfl, rfl⟩)
                go_loop [5] (fun i => ∃ j : Nat, j ≤ s.seen.length ∧ i = .int .i64 j ∧ ∀ (t : Nat) (x : Int), t < j → s.seen[t]? = some x → inB x 0 400 = true) (fun i => s.seen.length - (intOf i).toNat)
                case atStart => exact ⟨0, by omega, rfl, by intro t x h; omega⟩
                case round =>
                  obtain ⟨j, hj, rfl, hx⟩ := hrel
                  have Hx := Lib.hid hx
                  clear hx
                  by_cases hlt1 : j < s.seen.length
                  · obtain ⟨b', o', rfl, hU⟩ := HU.out (by omega)
                    obtain ⟨x, hx⟩ : ∃ x, s.seen[j]? = some x := ⟨_, List.getElem?_eq_getElem hlt1⟩
                    have dx := hU j hlt1
                    rw [hx] at dx
                    simp only [Option.getD_some] at dx
                    have hbx := World.block_lt_of_cell? _ _ dx
                    have Hxx := Lib.hid hx
                    clear hx hU
                    go_wp2_with (go_at_call 40; refine (In_same _ _ _ _).mono ?_; rintro e w' ⟨rfl, rfl⟩)
                    · have q : (!inB x 0 400) = true := by assumption
                      go_ret
                      refine gives_int (fault_bad h8 Hs.out (stratB_no ?_)).symm (hb.alloc hb.size _)
                      rintro ⟨_, _, _, _, _, q1, _⟩
                      have := inB_iff.2 (q1 j x Hxx.out)
                      rw [this] at q
                      cases q
                    · have q : (!inB x 0 400) = false := by assumption
                      go_round
                      case rel =>
                        refine ⟨j + 1, by omega, by go_num, fun t y ht hy => ?_⟩
                        by_cases e : t = j
                        · subst e
                          rw [Hxx.out] at hy
                          cases hy
                          simpa using q
                        · exact Hx.out t y (by omega) hy
                      case measure => simp [intOf]; omega
                  · have hok : SumOk s.seen := sumOk_of (by omega) (by
                      intro x hx
                      obtain ⟨t, ht, rfl⟩ := List.getElem_of_mem hx
                      have := inB_iff.1 (Hx.out t _ (by omega) (List.getElem?_eq_getElem ht))
                      omega)
                    have hsb := sumL_bound (l := s.seen) (M := 400) (by omega) (by
                      intro x hx
                      obtain ⟨t, ht, rfl⟩ := List.getElem_of_mem hx
                      exact inB_iff.1 (Hx.out t _ (by omega) (List.getElem?_eq_getElem ht)))
                    go_wp2_with fail
                    refine wp_name (fun W => Below wr.heap.size wr W ∧ wr.heap.size < W.heap.size ∧ W.cell? ⟨wr.heap.size, 1, none⟩ = some (.int .i64 s.lo) ∧ W.cell? ⟨wr.heap.size, 3, none⟩ = some (.slice A' s.seen.length c')) ?_ (fun W hF => ?_)
                    · exact ⟨(Below.refl _ _).alloc (Nat.le_refl _) _, by simp, by simp [go_sem], by simp [go_sem]⟩
                    obtain ⟨hW, hWs, f1, f3⟩ := hF
                    have huW := hu0.below hW
                    replace f1 := Later.cell f1
                    replace f3 := Later.cell f3
                    refine wp_region_later (by kernel_rfl) (by kernel_rfl) ?_
                    repeat (go_big_quiet_step ((go_at_call 30; exact Later.call (Sum_any _ _ _ (huW.below (Subtype.property _)) hok))))
                    refine wpQuiet_nil ?_
                    intro w2 hx2
                    have hb2 := Later.out hx2
                    clear hx2
                    have hw2 : Below wr.heap.size wr w2 := hW.trans (hb2.mono hW.size)
                    clear f1 f3
                    go_wp2
                    · have q : s.lo < sumL s.seen := by assumption
                      go_ret
                      refine gives_int (fault_bad h8 Hs.out (stratB_no ?_)).symm (hb.trans (hw2.mono hb.size))
                      rintro ⟨_, _, _, _, _, _, q6⟩
                      omega
                    · have q : sumL s.seen ≤ s.lo := by assumption
                      go_roundw
                      case rel =>
                        refine ⟨k + 1, by omega, by go_num, hb.trans (hw2.mono hb.size), Nat.lt_of_lt_of_le hlt0 hw2.size, cell_below hw2 hc0, cell_below hw2 hc1, fun t y ht hy => ?_⟩
                        by_cases e : t = k
                        · subst e
                          rw [Hs.out] at hy
                          cases hy
                          exact stratB_iff.2 ⟨Q.out.1, Q.out.2.1, Q.out.2.2.1, Q.out.2.2.2.1, Q.out.2.2.2.2, fun t x hx => inB_iff.1 (Hx.out t x (by have := (List.getElem?_eq_some_iff.1 hx).1; omega) hx), q⟩
                        · exact Hall.out t y (by omega) hy
                      case measure => simp [intOf]; omega
              · go_wp2_with (go_at_call 40; refine (In_same _ _ _ _).mono ?_; rintro e w' ⟨rfl, rfl⟩)
                go_ret
                refine gives_int (fault_bad h8 Hs.out (stratB_no ?_)).symm (hb.alloc hb.size _)
                rintro ⟨_, _, _, _, q5, _⟩
                simp [q5] at q4
            · go_wp2_with (go_at_call 40; refine (In_same _ _ _ _).mono ?_; rintro e w' ⟨rfl, rfl⟩)
              go_ret
              refine gives_int (fault_bad h8 Hs.out (stratB_no ?_)).symm (hb.alloc hb.size _)
              rintro ⟨_, _, _, q4, _⟩
              omega
          · go_wp2_with (go_at_call 40; refine (In_same _ _ _ _).mono ?_; rintro e w' ⟨rfl, rfl⟩)
            go_ret
            refine gives_int (fault_bad h8 Hs.out (stratB_no ?_)).symm (hb.alloc hb.size _)
            rintro ⟨_, q3, q4, _⟩
            exact q2 (inB_iff.2 ⟨q3, q4⟩)
        · go_wp2_with (go_at_call 40; refine (In_same _ _ _ _).mono ?_; rintro e w' ⟨rfl, rfl⟩)
          go_ret
          refine gives_int (fault_bad h8 Hs.out (stratB_no ?_)).symm (hb.alloc hb.size _)
          rintro ⟨q2, _⟩
          exact q1 (inB_iff.2 q2)
      · go_wp2
        go_ret
        exact gives_int (fault_ok h8 h1 fun j s hj hs => Hall.out j s (by omega) hs).symm hb
end Go.Proofs.Ytobeffjdfhkjeaa
