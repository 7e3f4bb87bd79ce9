import Derived.Test.YtobeffjdfhkjeaaB
import Derived.Test.YtobeffjdfhkjeaaP
set_option linter.unusedVariables false
set_option linter.unusedSimpArgs false
namespace Go.Proofs.Ytobeffjdfhkjeaa
open Go Go.Proofs Go.RowKit

def getI (coins x t : Int) : Int := if t = 0 then 0 else coins * x / t

theorem mul_bd {a b : Int} (h1 : 0 ≤ a) (h2 : a ≤ 10000000) (h3 : 0 ≤ b) (h4 : b ≤ 1000000) : 0 ≤ a * b ∧ a * b ≤ 10000000000000 := by
  have e : a * b ≤ 10000000 * 1000000 := Int.mul_le_mul h2 h4 h3 (by omega)
  exact ⟨Int.mul_nonneg h1 h3, by omega⟩

theorem getI_pos {coins x t : Int} (h : t ≠ 0) : getI coins x t = coins * x / t := by simp [getI, h]

set_option maxRecDepth 100000 in
theorem Gets_any (s : Strat) (u v : Value) (l : List Int) (k : Nat) (w : World) (hv : NumsAt .i64 w v l) (hk : k < l.length) (hok : SumOk l) (h0 : 0 ≤ sumL l)
    (hs0 : 0 ≤ s.coins) (hs1 : s.coins ≤ 10000000) (hx0 : 0 ≤ l[k]?.getD 0) (hx1 : l[k]?.getD 0 ≤ 1000000) :
    Calls Try.prog 25 #[.agg #[.int .i64 s.coins, .int .i64 s.lo, .int .i64 s.hi, u], v, .int .i64 k] w (Gives w (.int .i64 (getI s.coins (l[k]?.getD 0) (sumL l)))) := by
  obtain ⟨A, c, rfl, hc, hm⟩ := hv.form
  have hb0 : Below w.heap.size w (w.alloc (.cells #[.int .i64 s.coins, .int .i64 s.lo, .int .i64 s.hi, u] 44)) := (Below.refl _ _).alloc (Nat.le_refl _) _
  have hv0 := hv.below hb0
  by_cases hz : sumL l = 0
  · have e : getI s.coins (l[k]?.getD 0) (sumL l) = 0 := by simp [getI, hz]
    rw [e]; clear e
    have hz1 : (sumL l == 0) = true := by simpa using hz
    clear hz
    go_enter Try.func25, Try.ntmps25
    go_wp2_with (go_at_call 30; refine (Sum_same _ _ _ hv0 hok).mono ?_; rintro e w' ⟨rfl, rfl⟩)
    go_ret
    exact ⟨rfl, hb0⟩
  · have hp : 1 ≤ sumL l := by omega
    have hz1 : (sumL l == 0) = false := by simpa using hz
    rw [getI_pos hz]
    clear hz
    obtain ⟨b, o, x, rfl, hx, dx, hbw⟩ := hv0.at_ hk
    rw [hx] at hx0 hx1 ⊢
    simp only [Option.getD_some] at hx0 hx1 ⊢
    have Hx := Lib.hid hx
    clear hx
    have hmb := mul_bd hs0 hs1 hx0 hx1
    have i0 : (0 : Int) ≤ (k : Int) := by omega
    have i1 : (k : Int) < (l.length : Int) := by omega
    go_enter Try.func25, Try.ntmps25
    go_wp2_with (go_at_call 30; refine (Sum_same _ _ _ hv0 hok).mono ?_; rintro e w' ⟨rfl, rfl⟩)
    refine wp_name (fun W => Below w.heap.size w W ∧ W.cell? ⟨w.heap.size, 0, none⟩ = some (.int .i64 s.coins) ∧ W.cell? ⟨b, o + k, none⟩ = some (.int .i64 x) ∧ NumsAt .i64 W (.slice (some ⟨b, o, none⟩) l.length c) l) ?_ (fun W hF => ?_)
    · exact ⟨hb0, by simp [go_sem], dx, hv0⟩
    obtain ⟨hW, f0, fx, hvW⟩ := hF
    clear dx
    replace f0 := Later.cell f0
    replace fx := Later.cell fx
    refine wp_region_later (by kernel_rfl) (by kernel_rfl) ?_
    repeat (go_big_quiet_step ((go_at_call 30; exact Later.call (Sum_any _ _ _ (hvW.below (Subtype.property _)) hok))))
    refine wpQuiet_nil ?_
    intro w2 hx2
    have hb2 := Later.out hx2
    clear hx2 f0 fx
    go_wp2
    go_ret
    refine gives_int ?_ (hW.trans (hb2.mono hW.size))
    rfl

set_option maxRecDepth 100000 in
theorem Unseen_any (s : Strat) (u : Value) (w : World) (hu : NumsAt .i64 w u s.seen) (hok : SumOk s.seen) (h0 : -1000000 ≤ s.hi) (h1 : s.hi ≤ 1000000) :
    Calls Try.prog 42 #[.agg #[.int .i64 s.coins, .int .i64 s.lo, .int .i64 s.hi, u]] w (Gives w (.int .i64 (s.hi - sumL s.seen))) := by
  have hbs := hok s.seen.length (Nat.le_refl _)
  rw [List.take_length] at hbs
  obtain ⟨A, c, rfl, hc, hm⟩ := hu.form
  go_enter Try.func42, Try.ntmps42
  go_wp2_with fail
  refine wp_name (fun W => Below w.heap.size w W ∧ W.cell? ⟨w.heap.size, 2, none⟩ = some (.int .i64 s.hi) ∧ W.cell? ⟨w.heap.size, 3, none⟩ = some (.slice A s.seen.length c)) ?_ (fun W hF => ?_)
  · exact ⟨(Below.refl _ _).alloc (Nat.le_refl _) _, by simp [go_sem], by simp [go_sem]⟩
  obtain ⟨hW, f2, f3⟩ := hF
  have huW := hu.below hW
  replace f2 := Later.cell f2
  replace f3 := Later.cell f3
  refine wp_region_later (by kernel_rfl) (by kernel_rfl) ?_
  repeat (go_big_quiet_step ((go_at_call 30; exact Later.call (Sum_any _ _ _ (huW.below (Subtype.property _)) hok))))
  refine wpQuiet_nil ?_
  intro w2 hx2
  have hb2 := Later.out hx2
  clear hx2 f2 f3
  go_wp2
  go_ret
  refine gives_int ?_ (hW.trans (hb2.mono hW.size))
  rfl
end Go.Proofs.Ytobeffjdfhkjeaa
