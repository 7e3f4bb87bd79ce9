import Derived.Test.YtobeffjdfhkjeaaPG
set_option linter.unusedVariables false
set_option linter.unusedSimpArgs false
namespace Go.Proofs.Ytobeffjdfhkjeaa
open Go Go.RowKit

/-! ### The fund is what is left -/
def sK (ss : List Strat) : Nat → Int
  | 0 => 0
  | k + 1 => sK ss k + (ss[k]?.getD Strat.none).coins
/-- What the first j companies get. -/
def tK (ss : List Strat) (ll : List (List Int)) (k : Nat) : Nat → Int
  | 0 => 0
  | j + 1 => tK ss ll k j + gK ss ll j k

theorem tK_zero (ss : List Strat) (ll : List (List Int)) (j : Nat) : tK ss ll 0 j = 0 := by
  induction j with
  | zero => rfl
  | succ j ih => simp [tK, ih, gK]
theorem tK_succ (ss : List Strat) (ll : List (List Int)) (k j : Nat) : tK ss ll (k + 1) j = tK ss ll k j + cK ss ll k j := by
  induction j with
  | zero => simp [tK, cK]
  | succ j ih =>
    simp only [tK, cK, gK]
    omega
theorem fK_eq (m : Nat) (ss : List Strat) (ll : List (List Int)) (k : Nat) : fK m ss ll k = sK ss k - tK ss ll k m := by
  induction k with
  | zero => simp [fK, sK, tK_zero]
  | succ k ih =>
    rw [fK, sK, tK_succ, ih]
    omega
theorem sK_bd {n : Int} {ss : List Strat} {ll : List (List Int)} (h : Fit n ss ll) (k : Nat) : 0 ≤ sK ss k ∧ sK ss k ≤ k * 10000000 := by
  induction k with
  | zero => simp [sK]
  | succ k ih =>
    have := h.coins k
    simp only [sK]
    omega
theorem tK_bd {n : Int} {ss : List Strat} {ll : List (List Int)} (h : Fit n ss ll) (j : Nat) : 0 ≤ tK ss ll ss.length j ∧ tK ss ll ss.length j ≤ j * 80000000000000 := by
  induction j with
  | zero => simp [tK]
  | succ j ih =>
    have h1 := h.gK j ss.length
    have h2 := h.s8
    simp only [tK]
    omega
end Go.Proofs.Ytobeffjdfhkjeaa
