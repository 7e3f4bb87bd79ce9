import Derived.Test.YtobeffjdfhkjeaaL
import Derived.Test.YtobeffjdfhkjeaaMa
set_option linter.unusedVariables false
set_option linter.unusedSimpArgs false
namespace Go.Proofs.Ytobeffjdfhkjeaa
open Go Go.Proofs Go.RowKit

/-! ### A word; a truth of a valid pool, by words -/
def wordI (ws : List Int) (i : Nat) : Int := ws[i % ws.length]?.getD 0
def WordsOk (ws : List Int) : Prop := ∀ x ∈ ws, 0 ≤ x ∧ x ≤ 65535
theorem wordI_bd {ws : List Int} (h : WordsOk ws) (i : Nat) : 0 ≤ wordI ws i ∧ wordI ws i ≤ 65535 := by
  unfold wordI
  cases e : ws[i % ws.length]? with
  | none => simp
  | some x => exact h x (List.mem_of_getElem? e)

theorem word_same (v : Value) (ws : List Int) (i : Nat) (w : World) (hv : NumsAt .u16 w v ws) (hw : WordsOk ws) (hi : i ≤ 1000000) : Calls Try.prog 47 #[v, .int .i64 i] w (Same w (.int .i64 (wordI ws i))) := by
  have hbd := wordI_bd hw i
  obtain ⟨A, c, rfl, hc, hm⟩ := hv.form
  by_cases hz : ws.length = 0
  · have e : wordI ws i = 0 := by unfold wordI; rw [List.getElem?_eq_none (by omega)]; rfl
    rw [e]
    rw [hz] at hc ⊢
    clear hv hz e
    go_enter Try.func47, Try.ntmps47
    go_wp2
    go_ret
    exact ⟨rfl, rfl⟩
  · have hlt : i % ws.length < ws.length := Nat.mod_lt _ (by omega)
    obtain ⟨b, o, x, rfl, hx, dx, hbx⟩ := hv.at_ hlt
    have e : wordI ws i = x := by unfold wordI; rw [hx]; rfl
    rw [e] at hbd ⊢
    have Hk : ∃ k : Nat, ((i : Int) % (ws.length : Int)) = (k : Int) ∧ k = i % ws.length := ⟨i % ws.length, (Int.natCast_emod i ws.length).symm, rfl⟩
    obtain ⟨k, hk, hk'⟩ := Hk
    rw [← hk'] at dx hlt
    have hk1 : (k : Int) < (ws.length : Int) := by omega
    have hne : ((ws.length : Int) == 0) = false := beq_eq_false_iff_ne.2 (by omega)
    have hpos : 0 < (ws.length : Int) := by omega
    clear hx e hk' hv hz hw
    go_enter Try.func47, Try.ntmps47
    go_wp2
    go_ret
    exact ⟨rfl, rfl⟩
end Go.Proofs.Ytobeffjdfhkjeaa
