import Derived.Test.YtckgapeednokjaaGreatZ4
set_option linter.unusedVariables false
set_option linter.unusedSimpArgs false
namespace Go.Proofs.YtckgapeednokjaaGreat
open Go Go.Proofs Go.RowKit

theorem prCells_set : ∀ {L : List Pc} {k : Nat} (y : Pc), k < L.length → ((((prCells L).set (k * 4) (.int .i64 (y.b : Int))).set (k * 4 + 1) (.int .i64 (y.fr : Int))).set (k * 4 + 2) (.int .i64 (y.to : Int))).set (k * 4 + 3) (.int .i64 (y.first : Int)) = prCells (L.set k y)
  | [], k, y, h => by simp at h
  | z :: t, 0, y, _ => by simp [prCells, prC]
  | z :: t, k + 1, y, h => by
    have ih := prCells_set (L := t) (k := k) y (by simpa using h)
    have e : prCells (z :: t) = prC z ++ prCells t := by simp [prCells]
    have e2 : prCells ((z :: t).set (k + 1) y) = prC z ++ prCells (t.set k y) := by simp [prCells]
    have hl : (prC z).length = 4 := rfl
    rw [e, e2, ← ih]
    rw [List.set_append_right _ _ (by omega), List.set_append_right _ _ (by omega), List.set_append_right _ _ (by omega), List.set_append_right _ _ (by omega), hl]
    rw [show (k + 1) * 4 - 4 = k * 4 by omega, show (k + 1) * 4 + 1 - 4 = k * 4 + 1 by omega, show (k + 1) * 4 + 2 - 4 = k * 4 + 2 by omega, show (k + 1) * 4 + 3 - 4 = k * 4 + 3 by omega]
theorem wpAnyF_weak {P : Program} {md : Region.Mode} {ops : Array Oper} {Q : Exit → Act → World → Prop} {S : World → Prop} {kp kp' : Nat → Bool} : ∀ (fuel : Nat) (listed : Array Bool) (a : Act) (w : World), wpAnyF P md ops Q S kp fuel listed a w → wpAnyF P md ops Q (fun _ => True) kp' fuel listed a w
  | 0, _, _, _, h => h
  | fuel + 1, listed, a, w, h => ⟨h.1, fun i hi => wpOp_mono (fun a' w' h' => ⟨fun _ => trivial, wpAnyF_weak fuel _ a' w' h'.2⟩) (h.2 i hi)⟩
theorem wpAnyF_name {P : Program} {md : Region.Mode} {ops : Array Oper} {Q : Exit → Act → World → Prop} {S : World → Prop} {kp : Nat → Bool} {fuel : Nat} {listed : Array Bool} {a : Act} {w : World} (F : World → Prop) (h : F w) (hk : ∀ W, F W → wpAnyF P md ops Q S kp fuel listed a W) : wpAnyF P md ops Q S kp fuel listed a w := hk w h
end Go.Proofs.YtckgapeednokjaaGreat
