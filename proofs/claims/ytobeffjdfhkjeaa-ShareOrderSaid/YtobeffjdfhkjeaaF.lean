import Derived.Test.YtobeffjdfhkjeaaB
import Derived.Test.YtobeffjdfhkjeaaP
set_option linter.unusedVariables false
set_option linter.unusedSimpArgs false
namespace Go.Proofs.Ytobeffjdfhkjeaa
open Go Go.Proofs Go.RowKit

set_option maxRecDepth 100000 in
theorem Part_any (s : Strat) (u v : Value) (l : List Int) (w : World) (hu : NumsAt .i64 w u s.seen) (hv : NumsAt .i64 w v l) (hl : l.length ≤ s.seen.length) (hok : SumOk l) :
    Calls Try.prog 36 #[.agg #[.int .i64 s.coins, .int .i64 s.lo, .int .i64 s.hi, u], v] w (Gives w (.bool (partB s l))) := by
  obtain ⟨A, c, rfl, hc, hm⟩ := hu.form
  obtain ⟨A', c', rfl, hc', hm'⟩ := hv.form
  go_enter Try.func36, Try.ntmps36
  go_wp2
  go_loopw [5] (fun i wr => ∃ k : Nat, k ≤ l.length ∧ i = .int .i64 k ∧ Below w.heap.size w wr ∧ w.heap.size < wr.heap.size ∧ wr.cell? ⟨w.heap.size, 1, none⟩ = some (.int .i64 s.lo) ∧
      wr.cell? ⟨w.heap.size, 2, none⟩ = some (.int .i64 s.hi) ∧ wr.cell? ⟨w.heap.size, 3, none⟩ = some (.slice A s.seen.length c) ∧ ∀ j, j < k → s.seen[j]?.getD 0 ≤ l[j]?.getD 0) (fun i wr => l.length - (intOf i).toNat)
  case atStart => exact ⟨0, by omega, rfl, (Below.refl _ _).alloc (Nat.le_refl _) _, by simp, by simp [go_sem], by simp [go_sem], by simp [go_sem], by intro j h; omega⟩
  case round =>
    obtain ⟨k, hk, rfl, hb, hlt0, f1, f2, f3, hall⟩ := hrel
    have Hall := Lib.hid hall
    clear hall
    by_cases hlt : k < l.length
    · obtain ⟨b, o, y, rfl, hy, dy, _⟩ := (hu.below hb).at_ (k := k) (by omega)
      obtain ⟨b', o', x, rfl, hx, dx, _⟩ := (hv.below hb).at_ hlt
      have Hx := Lib.hid hx
      have Hy := Lib.hid hy
      have i0 : (0 : Int) ≤ (k : Int) := by omega
      have i1 : (k : Int) < (l.length : Int) := by omega
      have i2 : (k : Int) < (s.seen.length : Int) := by omega
      clear hx hy
      have g3 := Later.cell f3
      replace dx := Later.cell dx
      replace dy := Later.cell dy
      go_wp2_with fail
      refine wp_region_later (by kernel_rfl) (by kernel_rfl) ?_
      repeat (go_big_quiet_step (fail))
      refine wpQuiet_nil ?_
      intro w2 hx2
      have hb2 := Later.out hx2
      clear hx2 dx dy g3
      go_wp2
      · have q : x < y := by assumption
        go_ret
        exact gives_bool (by simp [partB, lowB_no Hx.out Hy.out q]) (hb.trans (hb2.mono hb.size))
      · have q : y ≤ x := by assumption
        go_roundw
        case rel =>
          refine ⟨k + 1, by omega, by go_num, hb.trans (hb2.mono hb.size), Nat.lt_of_lt_of_le hlt0 hb2.size, cell_below hb2 f1, cell_below hb2 f2, cell_below hb2 f3, fun j hj => ?_⟩
          by_cases e : j = k
          · subst e
            rw [Hx.out, Hy.out]
            exact q
          · exact Hall.out j (by omega)
        case measure => simp [intOf]; omega
    · have hvw := hv.below hb
      have g1 := Later.cell f1
      have g2 := Later.cell f2
      go_wp2_with fail
      refine wp_region_later (by kernel_rfl) (by kernel_rfl) ?_
      repeat (go_big_quiet_step (first
        | (go_at_call 30; exact Later.call (Sum_any _ _ _ (hvw.below (Subtype.property _)) hok))
        | (go_at_call 40; exact Later.call (In_any _ _ _ _))))
      refine wpQuiet_nil ?_
      intro w2 hx2
      have hb2 := Later.out hx2
      clear hx2 g1 g2
      go_wp2
      go_ret
      exact gives_bool (by simp [partB, lowB_yes fun j hj => Hall.out j (by omega)]) (hb.trans (hb2.mono hb.size))
end Go.Proofs.Ytobeffjdfhkjeaa
