import Derived.Test.YtckgapeednokjaaGreatK2
set_option linter.unusedVariables false
set_option linter.unusedSimpArgs false
set_option linter.unusedSectionVars false
namespace Go.Proofs.YtckgapeednokjaaGreat
open Go Go.Proofs Go.RowKit

/-! ### Own rows, cmp.Or of two (as K3 has them) -/
theorem own_some {w : World} {base : Nat} {e : TypeId} {size n c : Nat} {A : Option Addr} {xs : List Value} (h : w.ownsRow base e size (.slice A n c) n xs) (hn : 0 < n) : ∃ g, A = some ⟨g, 0, none⟩ ∧ base ≤ g ∧ g < w.heap.size := by
  rcases h.2 with ⟨_, h0⟩ | ⟨g, cap, cur, h', hb, hg, _⟩
  · omega
  · cases h'
    exact ⟨g, rfl, hb, (Array.getElem?_eq_some_iff.1 hg).1⟩
def orI (a b : Int) : Int := if a ≠ 0 then a else b
theorem nums_pair {W : World} {b : Nat} {x y : Int} (h0 : W.cell? ⟨b, 0, none⟩ = some (.int .i64 x)) (h1 : W.cell? ⟨b, 1, none⟩ = some (.int .i64 y)) : NumsAt .i64 W (.slice (some ⟨b, 0, none⟩) 2 2) [x, y] := by
  refine ⟨_, 2, rfl, by simp, by simp [maxLen], fun _ => ⟨b, 0, rfl, fun k hk => ?_⟩⟩
  match k, hk with
  | 0, _ => simpa using h0
  | 1, _ => simpa using h1
theorem Or_same (x y : Int) (v : Value) (W : World) (hv : NumsAt .i64 W v [x, y]) : Calls Tryz.prog 42 #[v] W (Same W (.int .i64 (orI x y))) := by
  obtain ⟨A, c, rfl, hc, hm⟩ := hv.form
  obtain ⟨b, o, x', rfl, hx, c0, hb⟩ := hv.at_ (k := 0) (by simp)
  obtain ⟨b2, o2, y', e, hy, c1, hb2⟩ := hv.at_ (k := 1) (by simp)
  cases e
  simp only [List.getElem?_cons_zero, Option.some.injEq] at hx
  subst hx
  simp only [List.getElem?_cons_succ, List.getElem?_cons_zero, Option.some.injEq] at hy
  subst hy
  simp only [List.length_cons, List.length_nil, Nat.reduceAdd, Nat.zero_add, Nat.add_zero] at *
  go_enter Tryz.func42, Tryz.ntmps42
  go_wp2
  go_loopw [8] (fun i wr => ∃ k : Nat, k ≤ 2 ∧ i = .int .i64 k ∧ wr = W ∧ (1 ≤ k → x = 0) ∧ (2 ≤ k → y = 0)) (fun i wr => 2 - (intOf i).toNat)
  case atStart => exact ⟨0, by omega, rfl, rfl, by omega, by omega⟩
  case round =>
    obtain ⟨k, hk, rfl, rfl, h1, h2⟩ := hrel
    match k, hk with
    | 0, _ =>
      by_cases hx : x = 0
      · subst hx
        have e0 := c0
        go_wp2
        go_roundw
        case rel => exact ⟨1, by omega, by go_num, by simp, by simp, by simp⟩
        case measure => simp [intOf]
      · have e0 := c0
        have hxb : (x == 0) = false := beq_eq_false_iff_ne.2 hx
        have hxd : (x != 0) = true := by simp [hx]
        go_wp2
        go_ret
        exact same_int (by simp [orI, hx])
    | 1, _ =>
      obtain rfl := h1 (by omega)
      by_cases hy : y = 0
      · subst hy
        have e0 := c1
        go_wp2
        go_roundw
        case rel => exact ⟨2, by omega, by go_num, by simp, by simp, by simp⟩
        case measure => simp [intOf]
      · have e0 := c1
        have hxb : (y == 0) = false := beq_eq_false_iff_ne.2 hy
        have hxd : (y != 0) = true := by simp [hy]
        go_wp2
        go_ret
        exact same_int (by simp [orI])
    | 2, _ =>
      obtain rfl := h1 (by omega)
      obtain rfl := h2 (by omega)
      go_wp2
      go_ret
      exact same_int (by simp [orI])
end Go.Proofs.YtckgapeednokjaaGreat
