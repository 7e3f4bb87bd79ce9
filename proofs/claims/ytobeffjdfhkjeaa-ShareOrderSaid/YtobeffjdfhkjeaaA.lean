import Derived.Test.YtobeffjdfhkjeaaWords
import Derived.Test.YtobeffjdfhkjeaaProg
import Derived.WalkKit
import Derived.KernelRfl
import Derived.WalkSpells
import Derived.WalkLawsBesides
import Derived.BigQuiet
import Derived.Deep.QuietTactic
import Derived.Outline
set_option linter.unusedVariables false
set_option linter.unusedSimpArgs false
namespace Go.Proofs.Ytobeffjdfhkjeaa
open Go Go.Proofs Go.RowKit

theorem thin_any (n : Int) (v : Value) (ss : List Strat) (w : World) (hS : StrataAt w v ss) :
    Calls Try.prog 16 #[.agg #[.int .i64 n, v]] w (Gives w (.bool (thinB ss))) := by
  obtain ⟨A, c, rfl, hc, hm, hS⟩ := hS
  unfold maxLen at hm
  go_enter Try.func16, Try.ntmps16
  go_wp2
  go_loop [3] (fun i => ∃ k : Nat, k ≤ ss.length ∧ k ≤ 13 ∧ i = .int .i64 k ∧ (∀ (j : Nat) (s : Strat), j < k → ss[j]? = some s → s.seen.length ≤ 9)) (fun i => ss.length - (intOf i).toNat)
  case atStart => exact ⟨0, by omega, by omega, rfl, by intro j s h; omega⟩
  case round =>
    obtain ⟨k, hk, hk13, rfl, hall⟩ := hrel
    have Hall := Lib.hid hall
    clear hall
    by_cases hlt : k < ss.length
    · by_cases h13 : k < 13
      · obtain ⟨b, o, rfl, hT⟩ := hS (by omega)
        obtain ⟨u, ⟨A', c', rfl, hc', hm', _⟩, c0, c1, c2, c3⟩ := hT k ss[k] (by simp [hlt])
        have hk0 : (k : Int) < 13 := by omega
        have hbw := World.block_lt_of_cell? _ _ c0
        unfold maxLen at hm'
        clear hS hT
        obtain ⟨s, hs⟩ : ∃ s, s = ss[k] := ⟨_, rfl⟩
        rw [← hs] at *
        have Hs := Lib.hid hs
        clear hs
        go_wp2
        · have h9 : 9 < (ss[k].seen.length : Int) := by assumption
          go_ret
          exact gives_bool (thin_no' (List.getElem?_eq_getElem hlt) (by omega)).symm ((Below.refl _ _).alloc (Nat.le_refl _) _)
        · have h9 : (ss[k].seen.length : Int) ≤ 9 := by assumption
          go_round
          case rel =>
            refine ⟨k + 1, by omega, by omega, by go_num, fun j s hj hs => ?_⟩
            by_cases e : j = k
            · subst e
              rw [List.getElem?_eq_getElem hlt] at hs
              cases hs
              omega
            · exact Hall.out j s (by omega) hs
          case measure => simp [intOf]; omega
      · go_wp2
        go_ret
        refine gives_bool ?_ ((Below.refl _ _).alloc (Nat.le_refl _) _)
        rw [thin_no (by omega)]
        simp; omega
    · go_wp2
      go_ret
      refine gives_bool ?_ ((Below.refl _ _).alloc (Nat.le_refl _) _)
      by_cases h12 : ss.length ≤ 12
      · rw [thin_yes h12 fun j s hj hs => Hall.out j s (by omega) hs]
        simp; omega
      · rw [thin_no (by omega)]
        simp; omega
end Go.Proofs.Ytobeffjdfhkjeaa
