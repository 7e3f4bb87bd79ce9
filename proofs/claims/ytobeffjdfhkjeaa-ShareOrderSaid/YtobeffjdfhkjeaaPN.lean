import Derived.Test.YtobeffjdfhkjeaaPT
import Derived.Test.YtobeffjdfhkjeaaPK
set_option linter.unusedVariables false
set_option linter.unusedSimpArgs false
namespace Go.Proofs.Ytobeffjdfhkjeaa
open Go Go.RowKit

/-! ### What is left of a stratum: plain -/
theorem take_bd {n : Int} {s : Strat} {l : List Int} {ss : List Strat} {ll : List (List Int)} {k : Nat} (hs : ss[k]? = some s) (hl : ll[k]? = some l) (ha : 0 ≤ s.coins) (h0 : ∀ x ∈ l, 0 ≤ x) (ht : 0 < sumL l) :
    ∀ j, j ≤ l.length → sumL l * cK ss ll k j ≤ s.coins * sumL (l.take j) ∧ s.coins * sumL (l.take j) ≤ sumL l * cK ss ll k j + j * (sumL l - 1)
  | 0, _ => by simp [cK, sumL]
  | j + 1, hj => by
    have ih := take_bd (n := n) hs hl ha h0 ht j (by omega)
    have hx := List.getElem?_eq_getElem (l := l) (i := j) (by omega)
    have e : gI ss ll k j = s.coins * l[j] / sumL l := by
      simp only [gI, hs, hl, hx, Option.getD_some, getI]
      rw [if_neg (by omega)]
    rw [sumL_take hx, cK, e, Int.mul_add, Int.mul_add]
    have h1 := Int.ediv_mul_le (s.coins * l[j]) (b := sumL l) (by omega)
    have h2 := Int.lt_ediv_add_one_mul_self (s.coins * l[j]) ht
    rw [Int.add_mul] at h2
    rw [Int.mul_comm (sumL l) (s.coins * l[j] / sumL l)]
    have e2 : ((j + 1 : Nat) : Int) * (sumL l - 1) = j * (sumL l - 1) + (sumL l - 1) := by
      rw [Int.natCast_add, Int.add_mul]
      simp
    omega

def mostI' (m : Nat) (ss : List Strat) (ll : List (List Int)) : Nat → Int
  | 0 => 0
  | k + 1 => mostI' m ss ll k + if 0 < sumL (ll[k]?.getD []) then (m : Int) - 1 else (ss[k]?.getD Strat.none).coins

theorem cK_left {m : Nat} {ss : List Strat} {ll : List (List Int)} (hf : faultI m ss = 0) (h : truthB m ss ll = true) {k : Nat} (hk : k < ss.length) :
    0 ≤ (ss[k]?.getD Strat.none).coins - cK ss ll k m ∧ (ss[k]?.getD Strat.none).coins - cK ss ll k m ≤ if 0 < sumL (ll[k]?.getD []) then (m : Int) - 1 else (ss[k]?.getD Strat.none).coins := by
  have hs := List.getElem?_eq_getElem (l := ss) (i := k) (by omega)
  obtain ⟨l, hl, hp⟩ := truth_part hf h hs
  have hv := (fault_zero hf).2.2.2 k _ hs
  have hlen := (stratB_iff.1 hv).2.2.2.2.1
  obtain ⟨h1, h2, h3, h4⟩ := strat_nums hv
  have hl0 : ∀ x ∈ l, 0 ≤ x := fun x hx => (hp.val x hx).1
  have hlm : l.length = m := by have := hp.len; omega
  have hm1 := (fault_zero hf).2.1
  rw [hs, hl, Option.getD_some, Option.getD_some]
  by_cases ht : 0 < sumL l
  · rw [if_pos ht]
    have := take_bd (n := m) hs hl h1.1 hl0 ht l.length (Nat.le_refl _)
    rw [List.take_length, hlm] at this
    obtain ⟨ha, hb⟩ := this
    rw [Int.mul_comm (ss[k].coins)] at ha hb
    have hc1 : cK ss ll k m ≤ ss[k].coins := Int.le_of_mul_le_mul_left ha ht
    refine ⟨by omega, ?_⟩
    have hd : sumL l * (ss[k].coins - cK ss ll k m) ≤ m * (sumL l - 1) := by rw [Int.mul_sub]; omega
    have he : (m : Int) * (sumL l - 1) < sumL l * m := by rw [Int.mul_sub, Int.mul_comm (sumL l)]; omega
    have := Int.lt_of_mul_lt_mul_left (Int.lt_of_le_of_lt hd he) (by omega : 0 ≤ sumL l)
    omega
  · rw [if_neg ht]
    have ht0 : sumL l = 0 := by have := sumL_nonneg hl0; omega
    have : ∀ j, cK ss ll k j = 0 := by
      intro j
      induction j with
      | zero => rfl
      | succ j ih => simp [cK, ih, gI, hs, hl, getI, ht0]
    rw [this]
    omega

theorem fund_left {m : Nat} {ss : List Strat} {ll : List (List Int)} (hf : faultI m ss = 0) (h : truthB m ss ll = true) : ∀ k, k ≤ ss.length → 0 ≤ fK m ss ll k ∧ fK m ss ll k ≤ mostI' m ss ll k
  | 0, _ => by simp [fK, mostI']
  | k + 1, hk => by
    have ih := fund_left hf h k (by omega)
    have := cK_left hf h (k := k) (by omega)
    simp only [fK, mostI']
    omega

theorem mostI'_bd {m : Nat} {ss : List Strat} {ll : List (List Int)} (hf : faultI m ss = 0) : ∀ k, 0 ≤ mostI' m ss ll k ∧ mostI' m ss ll k ≤ k * 10000000
  | 0 => by simp [mostI']
  | k + 1 => by
    have ih := mostI'_bd (ll := ll) hf k
    have hm := (fault_zero hf).2.1
    have hm5 := (fault_zero hf).2.2.1
    have hc : 0 ≤ (ss[k]?.getD Strat.none).coins ∧ (ss[k]?.getD Strat.none).coins ≤ 10000000 := by
      cases e : ss[k]? with
      | none => simp [Strat.none]
      | some s => exact (strat_nums ((fault_zero hf).2.2.2 k s e)).1
    simp only [mostI']
    split <;> omega

theorem gets_at {m : Nat} {ss : List Strat} {ll : List (List Int)} {c : Nat} (hc : c < m) : (getsL m ss ll)[c]? = some (gK ss ll c ss.length) := by
  simp [getsL, hc]

theorem sum_gets_take (m : Nat) (ss : List Strat) (ll : List (List Int)) : ∀ j, j ≤ m → sumL ((getsL m ss ll).take j) = tK ss ll ss.length j
  | 0, _ => by simp [sumL, tK]
  | j + 1, hj => by
    have ih := sum_gets_take m ss ll j (by omega)
    rw [sumL_take (x := gK ss ll j ss.length) (gets_at (by omega)), ih, tK]

theorem sum_gets (m : Nat) (ss : List Strat) (ll : List (List Int)) : sumL (getsL m ss ll) = tK ss ll ss.length m := by
  have := sum_gets_take m ss ll m (Nat.le_refl _)
  rwa [List.take_of_length_le (by simp [getsL])] at this

theorem gets_fund (m : Nat) (ss : List Strat) (ll : List (List Int)) : sumL (getsL m ss ll) + fundI m ss ll = sK ss ss.length := by
  rw [sum_gets, fundI, fK_eq]
  omega

theorem gets_ok {m : Nat} {ss : List Strat} {ll : List (List Int)} (hF : Fit m ss ll) (hm5 : m ≤ 5) : SumOk (getsL m ss ll) := by
  intro k hk
  have hkm : k ≤ m := by simpa [getsL] using hk
  rw [sum_gets_take m ss ll k hkm]
  have := tK_bd hF k
  omega
end Go.Proofs.Ytobeffjdfhkjeaa
