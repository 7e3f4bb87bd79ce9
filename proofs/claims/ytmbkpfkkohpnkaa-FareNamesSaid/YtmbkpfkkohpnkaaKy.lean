import Derived.Test.YtmbkpfkkohpnkaaMa
import Derived.Test.YtmbkpfkkohpnkaaOf
import Derived.WideKeyArgs
import Derived.DeepKeys4
import Derived.MapViews
set_option linter.unusedVariables false
set_option linter.unusedSimpArgs false
namespace Go.Proofs.Ytmbkpfkkohpnkaa
open Go Go.Proofs Go.RowKit

/-! ### The keys of the maps -/
theorem laidOut : laidOutB Try.prog = true := by kernel_rfl
theorem cov_row : (130 : TypeId) < Try.prog.types.size := of_decide_eq_true (by kernel_rfl)
theorem cov_wide : (match Try.prog.underlying 130 with | some (.array _ _) | some (.struct _) => true | _ => false) = true := by kernel_rfl
set_option maxRecDepth 100000 in
theorem cov_law : Maps.Keyed Try.prog 130 := Maps.Keyed.of_law (deep_law_laid laidOut (m := 2) (by omega) cov_row (by kernel_rfl) cov_wide)
set_option maxRecDepth 100000 in
theorem cov_key (b0 b1 b2 b3 b4 b5 b6 b7 b8 b9 b10 b11 : Bool) : keyOf Try.prog 130 (.agg #[.bool b0, .bool b1, .bool b2, .bool b3, .bool b4, .bool b5, .bool b6, .bool b7, .bool b8, .bool b9, .bool b10, .bool b11]) =
    some (.string (keyBytes [.bool b0, .bool b1, .bool b2, .bool b3, .bool b4, .bool b5, .bool b6, .bool b7, .bool b8, .bool b9, .bool b10, .bool b11])) := by kernel_rfl
def nowV (m : List Bool) : Value := .agg (m.map .bool).toArray
theorem twelve {m : List Bool} (h : m.length = 12) : ∃ b0 b1 b2 b3 b4 b5 b6 b7 b8 b9 b10 b11, m = [b0, b1, b2, b3, b4, b5, b6, b7, b8, b9, b10, b11] := by
  match m, h with
  | [b0, b1, b2, b3, b4, b5, b6, b7, b8, b9, b10, b11], _ => exact ⟨b0, b1, b2, b3, b4, b5, b6, b7, b8, b9, b10, b11, rfl⟩
theorem now_key {m : List Bool} (h : m.length = 12) : ∃ l, keyOf Try.prog 130 (nowV m) = some l := by
  obtain ⟨b0, b1, b2, b3, b4, b5, b6, b7, b8, b9, b10, b11, rfl⟩ := twelve h
  exact ⟨_, cov_key b0 b1 b2 b3 b4 b5 b6 b7 b8 b9 b10 b11⟩
theorem nowV_inj {m n : List Bool} (h : nowV m = nowV n) : m = n := by
  unfold nowV at h
  injection h with h
  have h2 : m.map Value.bool = n.map Value.bool := congrArg Array.toList h
  exact List.map_inj_right (fun a b e => by injection e) |>.1 h2
/-! how many keys there are -/
def allB : Nat → List (List Bool)
  | 0 => [[]]
  | n + 1 => (allB n).map (fun m => false :: m) ++ (allB n).map (fun m => true :: m)
theorem mem_allB : ∀ {n : Nat} {m : List Bool}, m.length = n → m ∈ allB n
  | 0, [], _ => by simp [allB]
  | n + 1, b :: m, h => by
    have hm := mem_allB (n := n) (m := m) (by simpa using h)
    cases b with
    | false => exact List.mem_append_left _ (List.mem_map.2 ⟨m, hm, rfl⟩)
    | true => exact List.mem_append_right _ (List.mem_map.2 ⟨m, hm, rfl⟩)
theorem allB_len : ∀ n, (allB n).length = 2 ^ n
  | 0 => rfl
  | n + 1 => by simp [allB, allB_len n]; omega
noncomputable def cntB (F : Value → Option Value) : Nat := ((allB 12).filter fun m => (F (nowV m)).isSome).length
theorem cntB_le (F : Value → Option Value) : cntB F ≤ 4096 := by
  have := List.length_filter_le (fun m => (F (nowV m)).isSome) (allB 12)
  rw [allB_len] at this
  exact this
theorem cntB_upd {F : Value → Option Value} {m : List Bool} (h : m.length = 12) (h0 : F (nowV m) = none) (v : Value) : cntB F + 1 ≤ cntB (updV F (nowV m) v) := by
  refine filter_lt (fun x _ hx => ?_) ⟨m, mem_allB h, by rw [updV_same]; rfl, by rw [h0]; rfl⟩
  by_cases e : nowV x = nowV m
  · rw [e, updV_same]; rfl
  · rw [updV_other e]; exact hx
end Go.Proofs.Ytmbkpfkkohpnkaa
