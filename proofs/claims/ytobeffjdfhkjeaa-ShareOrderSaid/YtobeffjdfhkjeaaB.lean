import Derived.Test.YtobeffjdfhkjeaaWords
import Derived.Test.YtobeffjdfhkjeaaProg
import Derived.WalkKit
import Derived.KernelRfl
import Derived.WalkSpells
import Derived.WalkLawsBesides
import Derived.BigQuiet
import Derived.Deep.QuietTactic
import Derived.Outline
set_option linter.unusedVariables false
set_option linter.unusedSimpArgs false
namespace Go.Proofs.Ytobeffjdfhkjeaa
open Go Go.Proofs Go.RowKit

theorem within_same (n lo hi : Int) (w : World) : Calls Try.prog 53 #[.int .i64 n, .int .i64 lo, .int .i64 hi] w (Same w (.bool (inB n lo hi))) := by
  by_cases h1 : lo ≤ n
  · by_cases h2 : n ≤ hi
    · have e : inB n lo hi = true := by simp [inB, h1, h2]
      rw [e]; clear e
      go_enter Try.func53, Try.ntmps53
      go_wp2
      go_ret
      exact ⟨rfl, rfl⟩
    · have e : inB n lo hi = false := by simp [inB, h2]
      rw [e]; clear e
      go_enter Try.func53, Try.ntmps53
      go_wp2
      go_ret
      exact ⟨rfl, rfl⟩
  · have e : inB n lo hi = false := by simp [inB, h1]
    rw [e]; clear e
    go_enter Try.func53, Try.ntmps53
    go_wp2
    go_ret
    exact ⟨rfl, rfl⟩

theorem In_same (n lo hi : Int) (w : World) : Calls Try.prog 40 #[.int .i64 n, .int .i64 lo, .int .i64 hi] w (Same w (.bool (inB n lo hi))) := by
  by_cases h1 : lo ≤ n
  · by_cases h2 : n ≤ hi
    · have e : inB n lo hi = true := by simp [inB, h1, h2]
      rw [e]; clear e
      go_enter Try.func40, Try.ntmps40
      go_wp2
      go_ret
      exact ⟨rfl, rfl⟩
    · have e : inB n lo hi = false := by simp [inB, h2]
      rw [e]; clear e
      go_enter Try.func40, Try.ntmps40
      go_wp2
      go_ret
      exact ⟨rfl, rfl⟩
  · have e : inB n lo hi = false := by simp [inB, h1]
    rw [e]; clear e
    go_enter Try.func40, Try.ntmps40
    go_wp2
    go_ret
    exact ⟨rfl, rfl⟩

theorem sum_same (v : Value) (l : List Int) (w : World) (hv : NumsAt .i64 w v l) (hok : SumOk l) : Calls Try.prog 59 #[v] w (Same w (.int .i64 (sumL l))) := by
  obtain ⟨A, c, rfl, hc, hm, hT⟩ := hv
  unfold maxLen at hm
  go_enter Try.func59, Try.ntmps59
  go_wp2
  go_loop [2, 7] (fun n j => ∃ k : Nat, k ≤ l.length ∧ j = .int .i64 k ∧ n = .int .i64 (sumL (l.take k))) (fun n j => l.length - (intOf j).toNat)
  case atStart => exact ⟨0, by omega, rfl, rfl⟩
  case round =>
    obtain ⟨k, hk, rfl, rfl⟩ := hrel
    by_cases hlt : k < l.length
    · obtain ⟨b, o, rfl, hT'⟩ := hT (by omega)
      obtain ⟨x, hx0⟩ : ∃ x, l[k]? = some x := ⟨_, List.getElem?_eq_getElem hlt⟩
      have hx := hT' k hlt
      rw [hx0] at hx
      simp only [Option.getD_some] at hx
      have hs := sumL_take hx0
      have h1 := hok (k + 1) (by omega)
      have h0 := hok k (by omega)
      rw [hs] at h1
      have Hs := Lib.hid hs
      clear hs hx0 hT hT'
      go_wp2
      go_round
      case rel => exact ⟨k + 1, by omega, by go_num, by rw [Hs.out]⟩
      case measure => simp [intOf]; omega
    · go_wp2
      go_ret
      exact same_int (by rw [List.take_of_length_le (by omega)])

theorem Sum_same (v : Value) (l : List Int) (w : World) (hv : NumsAt .i64 w v l) (hok : SumOk l) : Calls Try.prog 30 #[v] w (Same w (.int .i64 (sumL l))) := by
  obtain ⟨A, c, rfl, hc, hm, hT⟩ := hv
  unfold maxLen at hm
  go_enter Try.func30, Try.ntmps30
  go_wp2
  go_loop [3, 4] (fun n j => ∃ k : Nat, k ≤ l.length ∧ j = .int .i64 k ∧ n = .int .i64 (sumL (l.take k))) (fun n j => l.length - (intOf j).toNat)
  case atStart => exact ⟨0, by omega, rfl, rfl⟩
  case round =>
    obtain ⟨k, hk, rfl, rfl⟩ := hrel
    by_cases hlt : k < l.length
    · obtain ⟨b, o, rfl, hT'⟩ := hT (by omega)
      obtain ⟨x, hx0⟩ : ∃ x, l[k]? = some x := ⟨_, List.getElem?_eq_getElem hlt⟩
      have hx := hT' k hlt
      rw [hx0] at hx
      simp only [Option.getD_some] at hx
      have hs := sumL_take hx0
      have h1 := hok (k + 1) (by omega)
      have h0 := hok k (by omega)
      rw [hs] at h1
      have Hs := Lib.hid hs
      clear hs hx0 hT hT'
      go_wp2
      go_round
      case rel => exact ⟨k + 1, by omega, by go_num, by rw [Hs.out]⟩
      case measure => simp [intOf]; omega
    · go_wp2
      go_ret
      exact same_int (by rw [List.take_of_length_le (by omega)])

theorem journeys_same (n : Int) (w : World) : Calls Try.prog 77 #[.int .i64 n] w (Same w (.bool (inB n 0 400))) := by
  go_enter Try.func77, Try.ntmps77
  go_wp2_with (go_at_call 53; refine (within_same _ _ _ _).mono ?_; rintro e w' ⟨rfl, rfl⟩)
  go_ret
  exact ⟨rfl, rfl⟩

theorem within_any (n lo hi : Int) (w : World) : Calls Try.prog 53 #[.int .i64 n, .int .i64 lo, .int .i64 hi] w (Gives w (.bool (inB n lo hi))) := Same.gives (within_same n lo hi w)
theorem In_any (n lo hi : Int) (w : World) : Calls Try.prog 40 #[.int .i64 n, .int .i64 lo, .int .i64 hi] w (Gives w (.bool (inB n lo hi))) := Same.gives (In_same n lo hi w)
theorem journeys_any (n : Int) (w : World) : Calls Try.prog 77 #[.int .i64 n] w (Gives w (.bool (inB n 0 400))) := Same.gives (journeys_same n w)
theorem sum_any (v : Value) (l : List Int) (w : World) (hv : NumsAt .i64 w v l) (hok : SumOk l) : Calls Try.prog 59 #[v] w (Gives w (.int .i64 (sumL l))) := Same.gives (sum_same v l w hv hok)
theorem Sum_any (v : Value) (l : List Int) (w : World) (hv : NumsAt .i64 w v l) (hok : SumOk l) : Calls Try.prog 30 #[v] w (Gives w (.int .i64 (sumL l))) := Same.gives (Sum_same v l w hv hok)
end Go.Proofs.Ytobeffjdfhkjeaa
