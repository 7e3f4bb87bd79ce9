import Derived.Test.YtobeffjdfhkjeaaX
import Derived.Test.YtobeffjdfhkjeaaN
set_option linter.unusedVariables false
set_option linter.unusedSimpArgs false
namespace Go.Proofs.Ytobeffjdfhkjeaa
open Go Go.Proofs Go.RowKit

theorem right_same (n : Int) (w : World) : Calls Try.prog 62 #[.int .i64 n] w (Same w (.bool (inB n 1 10000000))) := by
  go_enter Try.func62, Try.ntmps62
  go_wp2_with (go_at_call 53; refine (within_same _ _ _ _).mono ?_; rintro e w' ⟨rfl, rfl⟩)
  go_ret
  exact ⟨rfl, rfl⟩

/-- The least place at which f holds, by halves. -/
def bsF (f : Nat → Bool) : Nat → Nat → Nat → Nat
  | 0, low, _ => low
  | t + 1, low, high => if low < high then (if f ((low + high) / 2) then bsF f t low ((low + high) / 2) else bsF f t ((low + high) / 2 + 1) high) else low

theorem bsF_stop (f : Nat → Bool) {low high : Nat} (h : high ≤ low) : ∀ t, bsF f t low high = low
  | 0 => rfl
  | t + 1 => by simp [bsF, show ¬ low < high by omega]

theorem bsF_more (f : Nat → Bool) : ∀ (t low high : Nat), high - low ≤ t → bsF f (t + 1) low high = bsF f t low high
  | 0, low, high, h => by simp [bsF, show ¬ low < high by omega]
  | t + 1, low, high, h => by
    rw [bsF]
    conv => rhs; rw [bsF]
    by_cases hlt : low < high
    · simp only [hlt, if_true]
      split
      · exact bsF_more f t _ _ (by omega)
      · exact bsF_more f t _ _ (by omega)
    · simp only [hlt, if_false]

theorem bsF_any (f : Nat → Bool) {t low high : Nat} (h : high - low ≤ t) : bsF f t low high = bsF f (high - low) low high := by
  induction t with
  | zero => rw [show high - low = 0 by omega]
  | succ t ih =>
    by_cases e : high - low = t + 1
    · rw [e]
    · rw [bsF_more f t low high (by omega), ih (by omega)]

theorem bsF_yes (f : Nat → Bool) {low high : Nat} (h : low < high) (hf : f ((low + high) / 2) = true) : bsF f (high - low) low high = bsF f ((low + high) / 2 - low) low ((low + high) / 2) := by
  rw [← bsF_any f (t := high - low - 1 + 1) (by omega), bsF]
  simp only [h, if_true, hf]
  exact bsF_any f (by omega)
theorem bsF_no (f : Nat → Bool) {low high : Nat} (h : low < high) (hf : f ((low + high) / 2) = false) : bsF f (high - low) low high = bsF f (high - ((low + high) / 2 + 1)) ((low + high) / 2 + 1) high := by
  rw [← bsF_any f (t := high - low - 1 + 1) (by omega), bsF]
  simp only [h, if_true, hf, Bool.false_eq_true, if_false]
  exact bsF_any f (by omega)

/-- The samples that a stratum needs. -/
def needN (s : Strat) (coins : Int) : Nat := bsF (narrowB s coins) (s.hi - sumL s.seen).toNat 0 (s.hi - sumL s.seen).toNat
def needL (coins : Int) (ss : List Strat) : List Int := ss.map fun s => (needN s coins : Int)

theorem needed1_any (n : Int) (s : Strat) (u : Value) (coins : Int) (more b1 b2 : Nat) (w : World) (hu : NumsAt .i64 w u s.seen) (hn : n ≤ 5) (hs : stratB n s = true) (hm : (more : Int) ≤ s.hi - sumL s.seen)
    (c0 : w.cell? ⟨b1, 0, none⟩ = some (.int .i64 s.coins)) (c1 : w.cell? ⟨b1, 1, none⟩ = some (.int .i64 s.lo)) (c2 : w.cell? ⟨b1, 2, none⟩ = some (.int .i64 s.hi)) (c3 : w.cell? ⟨b1, 3, none⟩ = some u) (d : w.cell? ⟨b2, 0, none⟩ = some (.int .i64 coins)) :
    Calls Try.prog 63 #[.int .i64 more, .pointer (some ⟨b1, 0, none⟩), .pointer (some ⟨b2, 0, none⟩)] w (Gives w (.bool (narrowB s coins more))) := by
  obtain ⟨A, c, rfl, hc, hc'⟩ := hu.form
  go_enter Try.func63, Try.ntmps63
  go_wp2_with (go_at_call 64; refine (narrow_any n s _ coins more _ hu hn hs hm).mono ?_; rintro e w1 ⟨rfl, hb1⟩)
  go_ret
  exact ⟨rfl, hb1⟩

/-- Numbers and no fault. -/
def GivesInts0 (w : World) (l : List Int) (e : Ending) (w' : World) : Prop :=
  ∃ A c, e = .returned (.tuple #[.slice A l.length c, .int .i64 0]) ∧ w'.ownsRow w.heap.size 3 1 (.slice A l.length c) l.length (l.map (.int .i64)) ∧ Below w.heap.size w w'

theorem Refused_fault (n : Int) (v u : Value) (ss : List Strat) (w : World) (hv : StrataAt w v ss) (hf : (faultI n ss != 0) = true) :
    Calls Try.prog 34 #[.agg #[.int .i64 n, v], u] w (Gives w (.tuple #[.slice none 0 0, .int .i64 (faultI n ss)])) := by
  have hb0 : Below w.heap.size w (w.alloc (.cells #[.int .i64 n, v] 33)) := (Below.refl _ _).alloc (Nat.le_refl _) _
  obtain ⟨A, c, rfl, hc, hm⟩ := hv.form
  go_enter Try.func34, Try.ntmps34
  go_wp2_with (go_at_call 19; refine (checkPool_any _ _ ss _ (hv.below hb0)).mono ?_; rintro e w1 ⟨rfl, hb1⟩)
  go_ret2
  exact ⟨rfl, hb0.trans (hb1.mono hb0.size)⟩

theorem Refused_range (n : Int) (v u : Value) (ss : List Strat) (ll : List (List Int)) (w : World) (hv : StrataAt w v ss) (hu : RowsAt w u ll) (hf : faultI n ss = 0) (h1 : listsB n ss.length ll = false) :
    Calls Try.prog 34 #[.agg #[.int .i64 n, v], u] w (Gives w (.tuple #[.slice none 0 0, .int .i64 2])) := by
  have hb0 : Below w.heap.size w (w.alloc (.cells #[.int .i64 n, v] 33)) := (Below.refl _ _).alloc (Nat.le_refl _) _
  obtain ⟨A, c, rfl, hc, hm⟩ := hv.form
  have hf0 : (faultI n ss != 0) = false := by simp [hf]
  clear hf
  go_enter Try.func34, Try.ntmps34
  go_wp2_with (first
    | (go_at_call 19; refine (checkPool_any _ _ ss _ (hv.below hb0)).mono ?_; rintro e w1 ⟨rfl, hb1⟩; have g0 : w1.cell? ⟨w.heap.size, 0, none⟩ = some (.int .i64 n) := cell_below hb1 (by simp [go_sem]); have g1 : w1.cell? ⟨w.heap.size, 1, none⟩ = some (.slice A ss.length c) := cell_below hb1 (by simp [go_sem]); have hw1 := hb0.trans (hb1.mono hb0.size))
    | (go_at_call 56; refine (Gives.to h1 (lists_any n _ _ ss ll _ (hv.below hw1) (hu.below hw1))).mono ?_; rintro e w2 ⟨rfl, hb2⟩; have hw2 := hw1.trans (hb2.mono hw1.size)))
  go_ret2
  exact ⟨rfl, hw2⟩

theorem Refused_ok (n : Int) (v u : Value) (ss : List Strat) (ll : List (List Int)) (w : World) (hv : StrataAt w v ss) (hu : RowsAt w u ll) (hf : faultI n ss = 0) (h1 : listsB n ss.length ll = true) :
    Calls Try.prog 34 #[.agg #[.int .i64 n, v], u] w (GivesInts0 w (refusedL ss ll ss.length)) := by
  have hb0 : Below w.heap.size w (w.alloc (.cells #[.int .i64 n, v] 33)) := (Below.refl _ _).alloc (Nat.le_refl _) _
  obtain ⟨A, c, rfl, hc, hm⟩ := hv.form
  have hf0 : (faultI n ss != 0) = false := by simp [hf]
  have hF := fit_of hf h1
  have hlen : ss.length ≤ ll.length := by have := hF.len; omega
  have HF := Lib.hid hF
  clear hf hF
  go_enter Try.func34, Try.ntmps34
  go_wp2_with (first
    | (go_at_call 19; refine (checkPool_any _ _ ss _ (hv.below hb0)).mono ?_; rintro e w1 ⟨rfl, hb1⟩; have g0 : w1.cell? ⟨w.heap.size, 0, none⟩ = some (.int .i64 n) := cell_below hb1 (by simp [go_sem]); have g1 : w1.cell? ⟨w.heap.size, 1, none⟩ = some (.slice A ss.length c) := cell_below hb1 (by simp [go_sem]); have hw1 := hb0.trans (hb1.mono hb0.size))
    | (go_at_call 56; refine (Gives.to h1 (lists_any n _ _ ss ll _ (hv.below hw1) (hu.below hw1))).mono ?_; rintro e w2 ⟨rfl, hb2⟩; have hw2 := hw1.trans (hb2.mono hw1.size); have k0 := cell_below hb2 g0; have k1 := cell_below hb2 g1)
    | (go_at_call 57; refine (refused_any n _ _ ss ll _ (hv.below hw2) (hu.below hw2) HF.out.n5 hlen HF.out.s8 HF.out.val HF.out.row).mono ?_; rintro e w3 ⟨A3, c3, rfl, ho3, hb3⟩; have hw3 := hw2.trans (hb3.mono hw2.size)))
  go_ret2
  exact ⟨A3, c3, rfl, own_mono ho3 hw2.size, hw3⟩

theorem Needed_fault (n coins : Int) (v : Value) (ss : List Strat) (w : World) (hv : StrataAt w v ss) (hf : (faultI n ss != 0) = true) :
    Calls Try.prog 38 #[.agg #[.int .i64 n, v], .int .i64 coins] w (Gives w (.tuple #[.slice none 0 0, .int .i64 (faultI n ss)])) := by
  have hb0 : Below w.heap.size w ((w.alloc (.cells #[.int .i64 n, v] 33)).alloc (.cells #[.int .i64 coins] 3)) := ((Below.refl _ _).alloc (Nat.le_refl _) _).alloc (by simp) _
  obtain ⟨A, c, rfl, hc, hm⟩ := hv.form
  go_enter Try.func38, Try.ntmps38
  go_wp2_with (go_at_call 19; refine (checkPool_any _ _ ss _ (hv.below hb0)).mono ?_; rintro e w1 ⟨rfl, hb1⟩)
  go_ret2
  exact ⟨rfl, hb0.trans (hb1.mono hb0.size)⟩

theorem Needed_range (n coins : Int) (v : Value) (ss : List Strat) (w : World) (hv : StrataAt w v ss) (hf : faultI n ss = 0) (hc0 : inB coins 1 10000000 = false) :
    Calls Try.prog 38 #[.agg #[.int .i64 n, v], .int .i64 coins] w (Gives w (.tuple #[.slice none 0 0, .int .i64 2])) := by
  have hb0 : Below w.heap.size w ((w.alloc (.cells #[.int .i64 n, v] 33)).alloc (.cells #[.int .i64 coins] 3)) := ((Below.refl _ _).alloc (Nat.le_refl _) _).alloc (by simp) _
  obtain ⟨A, c, rfl, hc, hm⟩ := hv.form
  have hf0 : (faultI n ss != 0) = false := by simp [hf]
  clear hf
  go_enter Try.func38, Try.ntmps38
  go_wp2_with (first
    | (go_at_call 19; refine (checkPool_any _ _ ss _ (hv.below hb0)).mono ?_; rintro e w1 ⟨rfl, hb1⟩; have g0 : w1.cell? ⟨w.heap.size + 1, 0, none⟩ = some (.int .i64 coins) := cell_below hb1 (by simp [go_sem]))
    | (go_at_call 62; refine (Same.to hc0 (right_same _ _)).mono ?_; rintro e w' ⟨rfl, rfl⟩))
  go_ret2
  exact ⟨rfl, hb0.trans (hb1.mono hb0.size)⟩
end Go.Proofs.Ytobeffjdfhkjeaa
