import Derived.Test.YtmbkpfkkohpnkaaLp
import Derived.Test.YtmbkpfkkohpnkaaPu
set_option linter.unusedVariables false
set_option linter.unusedSimpArgs false
namespace Go.Proofs.Ytmbkpfkkohpnkaa
open Go Go.Proofs Go.RowKit

theorem own_some {w : World} {base : Nat} {e : TypeId} {size n c : Nat} {A : Option Addr} {xs : List Value} (h : w.ownsRow base e size (.slice A n c) n xs) (hn : 0 < n) : ∃ g, A = some ⟨g, 0, none⟩ ∧ base ≤ g ∧ g < w.heap.size := by
  rcases h.2 with ⟨_, h0⟩ | ⟨g, cap, cur, h', hb, hg, _⟩
  · omega
  · cases h'
    exact ⟨g, rfl, hb, (Array.getElem?_eq_some_iff.1 hg).1⟩
theorem wpAnyF_weak {P : Program} {md : Region.Mode} {ops : Array Oper} {Q : Exit → Act → World → Prop} {S : World → Prop} {kp kp' : Nat → Bool} : ∀ (fuel : Nat) (listed : Array Bool) (a : Act) (w : World), wpAnyF P md ops Q S kp fuel listed a w → wpAnyF P md ops Q (fun _ => True) kp' fuel listed a w
  | 0, _, _, _, h => h
  | fuel + 1, listed, a, w, h => ⟨h.1, fun i hi => wpOp_mono (fun a' w' h' => ⟨fun _ => trivial, wpAnyF_weak fuel _ a' w' h'.2⟩) (h.2 i hi)⟩
theorem wpAnyF_name {P : Program} {md : Region.Mode} {ops : Array Oper} {Q : Exit → Act → World → Prop} {S : World → Prop} {kp : Nat → Bool} {fuel : Nat} {listed : Array Bool} {a : Act} {w : World} (F : World → Prop) (h : F w) (hk : ∀ W, F W → wpAnyF P md ops Q S kp fuel listed a W) : wpAnyF P md ops Q S kp fuel listed a w := hk w h
theorem rd_setC : ∀ {L : List Rd} {k : Nat} (y : Rd), k < L.length → (((((L.flatMap rdC).set (k * 4) (.int .i64 y.day)).set (k * 4 + 1) (.int .i64 y.minute)).set (k * 4 + 2) (.int .i64 y.low)).set (k * 4 + 3) (.int .i64 y.high)) = (L.set k y).flatMap rdC
  | [], k, y, h => by simp at h
  | z :: t, 0, y, _ => by simp [rdC]
  | z :: t, k + 1, y, h => by
    have ih := rd_setC (L := t) (k := k) y (by simpa using h)
    have e : (z :: t).flatMap rdC = rdC z ++ t.flatMap rdC := by simp [rdC]
    have e2 : ((z :: t).set (k + 1) y).flatMap rdC = rdC z ++ (t.set k y).flatMap rdC := by simp [rdC]
    have hl : (rdC z).length = 4 := rfl
    rw [e, e2, ← ih]
    rw [List.set_append_right _ _ (by omega), List.set_append_right _ _ (by omega), List.set_append_right _ _ (by omega), List.set_append_right _ _ (by omega), hl]
    rw [show (k + 1) * 4 - 4 = k * 4 by omega, show (k + 1) * 4 + 1 - 4 = k * 4 + 1 by omega, show (k + 1) * 4 + 2 - 4 = k * 4 + 2 by omega, show (k + 1) * 4 + 3 - 4 = k * 4 + 3 by omega]
theorem tp_setC : ∀ {L : List Tp} {k : Nat} (y : Tp), k < L.length → ((((((((L.flatMap tpC).set (k * 7) (.int .i64 y.machine)).set (k * 7 + 1) (.int .i64 y.number)).set (k * 7 + 2) (.int .i64 y.card)).set (k * 7 + 3) (.int .i64 y.ride.day)).set (k * 7 + 4) (.int .i64 y.ride.minute)).set (k * 7 + 5) (.int .i64 y.ride.low)).set (k * 7 + 6) (.int .i64 y.ride.high)) = (L.set k y).flatMap tpC
  | [], k, y, h => by simp at h
  | z :: t, 0, y, _ => by simp [tpC]
  | z :: t, k + 1, y, h => by
    have ih := tp_setC (L := t) (k := k) y (by simpa using h)
    have e : (z :: t).flatMap tpC = tpC z ++ t.flatMap tpC := by simp [tpC]
    have e2 : ((z :: t).set (k + 1) y).flatMap tpC = tpC z ++ (t.set k y).flatMap tpC := by simp [tpC]
    have hl : (tpC z).length = 7 := rfl
    rw [e, e2, ← ih]
    rw [List.set_append_right _ _ (by omega), List.set_append_right _ _ (by omega), List.set_append_right _ _ (by omega), List.set_append_right _ _ (by omega), List.set_append_right _ _ (by omega), List.set_append_right _ _ (by omega), List.set_append_right _ _ (by omega), hl]
    rw [show (k + 1) * 7 - 7 = k * 7 by omega, show (k + 1) * 7 + 1 - 7 = k * 7 + 1 by omega, show (k + 1) * 7 + 2 - 7 = k * 7 + 2 by omega, show (k + 1) * 7 + 3 - 7 = k * 7 + 3 by omega, show (k + 1) * 7 + 4 - 7 = k * 7 + 4 by omega, show (k + 1) * 7 + 5 - 7 = k * 7 + 5 by omega, show (k + 1) * 7 + 6 - 7 = k * 7 + 6 by omega]
/-- Two places of a list changed for each other. -/
theorem swap_perm {α : Type} {L : List α} {i j : Nat} {x y : α} (hi : L[i]? = some x) (hj : L[j]? = some y) : ((L.set i y).set j x).Perm L := by
  obtain ⟨h1, rfl⟩ := List.getElem?_eq_some_iff.1 hi
  obtain ⟨h2, rfl⟩ := List.getElem?_eq_some_iff.1 hj
  exact List.set_set_perm h1 h2
theorem wordL_bd {ws : List Int} (hw : ∀ x ∈ ws, 0 ≤ x ∧ x ≤ 65535) (k : Nat) : 0 ≤ wordL ws k ∧ wordL ws k ≤ 65535 := by
  unfold wordL
  split
  · omega
  · rename_i h
    have hlt : k % ws.length < ws.length := Nat.mod_lt _ (by omega)
    rw [List.getElem?_eq_getElem hlt]
    exact hw _ (List.getElem_mem hlt)
end Go.Proofs.Ytmbkpfkkohpnkaa
