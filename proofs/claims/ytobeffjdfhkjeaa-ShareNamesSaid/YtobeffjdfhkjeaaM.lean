import Derived.Test.YtobeffjdfhkjeaaPG
set_option linter.unusedVariables false
set_option linter.unusedSimpArgs false
namespace Go.Proofs.Ytobeffjdfhkjeaa
open Go Go.Proofs Go.RowKit

def GivesGet (w : World) (l : List Int) (f : Int) (e : Ending) (w' : World) : Prop :=
  ∃ A c, e = .returned (.tuple #[.slice A l.length c, .int .i64 f, .int .i64 0]) ∧ w'.ownsRow w.heap.size 3 1 (.slice A l.length c) l.length (l.map (.int .i64)) ∧ Below w.heap.size w w'

theorem Get_fault (n : Int) (v u : Value) (ss : List Strat) (w : World) (hv : StrataAt w v ss) (hf : (faultI n ss != 0) = true) :
    Calls Try.prog 21 #[.agg #[.int .i64 n, v], u] w (Gives w (.tuple #[.slice none 0 0, .int .i64 0, .int .i64 (faultI n ss)])) := by
  have hb0 : Below w.heap.size w (w.alloc (.cells #[.int .i64 n, v] 33)) := (Below.refl _ _).alloc (Nat.le_refl _) _
  obtain ⟨A, c, rfl, hc, hm⟩ := hv.form
  go_enter Try.func21, Try.ntmps21
  go_wp2_with (go_at_call 19; refine (checkPool_any _ _ ss _ (hv.below hb0)).mono ?_; rintro e w1 ⟨rfl, hb1⟩)
  go_ret3
  exact ⟨rfl, hb0.trans (hb1.mono hb0.size)⟩

theorem Get_range (n : Int) (v u : Value) (ss : List Strat) (ll : List (List Int)) (w : World) (hv : StrataAt w v ss) (hu : RowsAt w u ll) (hf : faultI n ss = 0) (hl : truthB n ss ll = false) :
    Calls Try.prog 21 #[.agg #[.int .i64 n, v], u] w (Gives w (.tuple #[.slice none 0 0, .int .i64 0, .int .i64 2])) := by
  have hb0 : Below w.heap.size w (w.alloc (.cells #[.int .i64 n, v] 33)) := (Below.refl _ _).alloc (Nat.le_refl _) _
  obtain ⟨A, c, rfl, hc, hm⟩ := hv.form
  have hf0 : (faultI n ss != 0) = false := by simp [hf]
  cases h1 : listsB n ss.length ll with
  | false =>
    clear hf
    go_enter Try.func21, Try.ntmps21
    go_wp2_with (first
      | (go_at_call 19; refine (checkPool_any _ _ ss _ (hv.below hb0)).mono ?_; rintro e w1 ⟨rfl, hb1⟩; have g0 : w1.cell? ⟨w.heap.size, 0, none⟩ = some (.int .i64 n) := cell_below hb1 (by simp [go_sem]); have g1 : w1.cell? ⟨w.heap.size, 1, none⟩ = some (.slice A ss.length c) := cell_below hb1 (by simp [go_sem]); have hw1 := hb0.trans (hb1.mono hb0.size))
      | (go_at_call 56; refine (Gives.to h1 (lists_any n _ _ ss ll _ (hv.below hw1) (hu.below hw1))).mono ?_; rintro e w2 ⟨rfl, hb2⟩; have hw2 := hw1.trans (hb2.mono hw1.size)))
    go_ret3
    exact ⟨rfl, hw2⟩
  | true =>
    have hF := fit_of hf h1
    have hp : partsB ss ll = false := by simpa [truthB, h1] using hl
    have hr := refusedL_pos hp
    rw [hF.len] at hr
    have hlen : ss.length ≤ ll.length := by have := hF.len; omega
    have HR := Lib.hid hr
    have HF := Lib.hid hF
    clear hf hp hl hF hr
    go_enter Try.func21, Try.ntmps21
    go_wp2_with (first
      | (go_at_call 19; refine (checkPool_any _ _ ss _ (hv.below hb0)).mono ?_; rintro e w1 ⟨rfl, hb1⟩; have g0 : w1.cell? ⟨w.heap.size, 0, none⟩ = some (.int .i64 n) := cell_below hb1 (by simp [go_sem]); have g1 : w1.cell? ⟨w.heap.size, 1, none⟩ = some (.slice A ss.length c) := cell_below hb1 (by simp [go_sem]); have hw1 := hb0.trans (hb1.mono hb0.size))
      | (go_at_call 56; refine (Gives.to h1 (lists_any n _ _ ss ll _ (hv.below hw1) (hu.below hw1))).mono ?_; rintro e w2 ⟨rfl, hb2⟩; have hw2 := hw1.trans (hb2.mono hw1.size); have k0 := cell_below hb2 g0; have k1 := cell_below hb2 g1)
      | (go_at_call 57; refine (refused_any n _ _ ss ll _ (hv.below hw2) (hu.below hw2) HF.out.n5 hlen HF.out.s8 HF.out.val HF.out.row).mono ?_; rintro e w3 ⟨A3, c3, rfl, ho3, hb3⟩; have hr := HR.out))
    go_ret3
    exact ⟨rfl, hw2.trans (hb3.mono hw2.size)⟩
end Go.Proofs.Ytobeffjdfhkjeaa
