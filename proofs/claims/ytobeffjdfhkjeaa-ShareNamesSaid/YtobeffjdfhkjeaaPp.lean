import Derived.Test.YtobeffjdfhkjeaaPG
import Derived.Test.YtobeffjdfhkjeaaPB
set_option linter.unusedVariables false
set_option linter.unusedSimpArgs false
namespace Go.Proofs.Ytobeffjdfhkjeaa
open Go Go.RowKit

/-! ### The fund is what is left -/
def sK (ss : List Strat) : Nat → Int
  | 0 => 0
  | k + 1 => sK ss k + (ss[k]?.getD Strat.none).coins
/-- What the first j companies get. -/
def tK (ss : List Strat) (ll : List (List Int)) (k : Nat) : Nat → Int
  | 0 => 0
  | j + 1 => tK ss ll k j + gK ss ll j k

theorem tK_zero (ss : List Strat) (ll : List (List Int)) (j : Nat) : tK ss ll 0 j = 0 := by
  induction j with
  | zero => rfl
  | succ j ih => simp [tK, ih, gK]
theorem tK_succ (ss : List Strat) (ll : List (List Int)) (k j : Nat) : tK ss ll (k + 1) j = tK ss ll k j + cK ss ll k j := by
  induction j with
  | zero => simp [tK, cK]
  | succ j ih =>
    simp only [tK, cK, gK]
    omega
theorem fK_eq (m : Nat) (ss : List Strat) (ll : List (List Int)) (k : Nat) : fK m ss ll k = sK ss k - tK ss ll k m := by
  induction k with
  | zero => simp [fK, sK, tK_zero]
  | succ k ih =>
    rw [fK, sK, tK_succ, ih]
    omega
theorem sK_bd {n : Int} {ss : List Strat} {ll : List (List Int)} (h : Fit n ss ll) (k : Nat) : 0 ≤ sK ss k ∧ sK ss k ≤ k * 10000000 := by
  induction k with
  | zero => simp [sK]
  | succ k ih =>
    have := h.coins k
    simp only [sK]
    omega
theorem tK_bd {n : Int} {ss : List Strat} {ll : List (List Int)} (h : Fit n ss ll) (j : Nat) : 0 ≤ tK ss ll ss.length j ∧ tK ss ll ss.length j ≤ j * 80000000000000 := by
  induction j with
  | zero => simp [tK]
  | succ j ih =>
    have h1 := h.gK j ss.length
    have h2 := h.s8
    simp only [tK]
    omega
end Go.Proofs.Ytobeffjdfhkjeaa
namespace Go.Proofs.Ytobeffjdfhkjeaa
open Go Go.RowKit

/-! ### What a company gets in a truth is in its range: plain -/
/-- Journeys that are a stratum's part of a truth. -/
structure PartOf (n : Int) (s : Strat) (l : List Int) : Prop where
  len : l.length = s.seen.length
  val : ∀ x ∈ l, 0 ≤ x ∧ x ≤ 400
  low : ∀ c : Nat, s.seen[c]?.getD 0 ≤ l[c]?.getD 0
  lo : s.lo ≤ sumL l
  hi : sumL l ≤ s.hi

theorem getD_le_of {a b : List Int} (h : ∀ c : Nat, c < a.length → a[c]?.getD 0 ≤ b[c]?.getD 0) (hl : b.length = a.length) : ∀ c : Nat, a[c]?.getD 0 ≤ b[c]?.getD 0 := by
  intro c
  by_cases hc : c < a.length
  · exact h c hc
  · rw [List.getElem?_eq_none (by omega), List.getElem?_eq_none (by omega)]
    exact Int.le_refl _

theorem lowB_iff {seen l : List Int} : lowB seen l = true ↔ ∀ c, c < l.length → seen[c]?.getD 0 ≤ l[c]?.getD 0 := by
  simp [lowB, List.all_eq_true]

theorem partOf_of {n : Int} {s : Strat} {l : List Int} (hs : stratB n s = true) (hr : rowB n l = true) (hp : partB s l = true) : PartOf n s l := by
  obtain ⟨_, _, _, _, h5, _, _⟩ := stratB_iff.1 hs
  obtain ⟨h1, h2⟩ := rowB_iff.1 hr
  simp only [partB, Bool.and_eq_true] at hp
  obtain ⟨h3, h4⟩ := hp
  have h4 := inB_iff.1 h4
  have hl : l.length = s.seen.length := by omega
  refine ⟨hl, fun x hx => ?_, ?_, h4.1, h4.2⟩
  · obtain ⟨j, hj, rfl⟩ := List.getElem_of_mem hx
    exact h2 j _ (List.getElem?_eq_getElem hj)
  · exact getD_le_of (fun c hc => lowB_iff.1 h3 c (by omega)) hl

theorem of_partOf {n : Int} {s : Strat} {l : List Int} (hs : stratB n s = true) (h : PartOf n s l) : rowB n l = true ∧ partB s l = true := by
  obtain ⟨_, _, _, _, h5, _, _⟩ := stratB_iff.1 hs
  refine ⟨rowB_iff.2 ⟨by rw [h.len]; exact h5, fun j x hx => h.val x (List.mem_of_getElem? hx)⟩, ?_⟩
  simp only [partB, Bool.and_eq_true]
  exact ⟨lowB_iff.2 fun c _ => h.low c, inB_iff.2 ⟨h.lo, h.hi⟩⟩

theorem truth_part {n : Int} {ss : List Strat} {ll : List (List Int)} (hf : faultI n ss = 0) (h : truthB n ss ll = true) {k : Nat} {s : Strat} (hs : ss[k]? = some s) : ∃ l, ll[k]? = some l ∧ PartOf n s l := by
  simp only [truthB, Bool.and_eq_true] at h
  have hF := fit_of hf h.1
  have hk : k < ll.length := by rw [hF.len]; exact (List.getElem?_eq_some_iff.1 hs).1
  have hl := List.getElem?_eq_getElem hk
  refine ⟨ll[k], hl, partOf_of (hF.val k s hs) (hF.row k _ hl) ?_⟩
  have := List.all_eq_true.1 h.2 k (List.mem_range.2 hk)
  rwa [hs, hl, Option.getD_some, Option.getD_some] at this

theorem truth_of {n : Int} {ss : List Strat} {ll : List (List Int)} (hf : faultI n ss = 0) (hlen : ll.length = ss.length) (h : ∀ (k : Nat) (s : Strat) (l : List Int), ss[k]? = some s → ll[k]? = some l → PartOf n s l) : truthB n ss ll = true := by
  have hv := (fault_zero hf).2.2.2
  simp only [truthB, Bool.and_eq_true]
  refine ⟨listsB_iff.2 ⟨hlen, fun j l hl => ?_⟩, partsB_yes fun k hk => ?_⟩
  · have hj : j < ss.length := by rw [← hlen]; exact (List.getElem?_eq_some_iff.1 hl).1
    have hs := List.getElem?_eq_getElem hj
    exact (of_partOf (hv j _ hs) (h j _ l hs hl)).1
  · have hl := List.getElem?_eq_getElem hk
    have hs := List.getElem?_eq_getElem (l := ss) (i := k) (by omega)
    rw [hs, hl, Option.getD_some, Option.getD_some]
    exact (of_partOf (hv k _ hs) (h k _ _ hs hl)).2

/-- One element grows by at most as much as the sum. -/
theorem elem_sum : ∀ {a b : List Int}, b.length = a.length → (∀ c : Nat, a[c]?.getD 0 ≤ b[c]?.getD 0) → ∀ c : Nat, b[c]?.getD 0 + sumL a ≤ a[c]?.getD 0 + sumL b ∧ sumL a ≤ sumL b
  | [], [], _, _, c => by simp [sumL]
  | x :: a, y :: b, hl, h, c => by
    have h0 := h 0
    simp only [List.getElem?_cons_zero, Option.getD_some] at h0
    have ih := elem_sum (a := a) (b := b) (by simpa using hl) (fun c => by simpa using h (c + 1))
    cases c with
    | zero =>
      have := (ih 0).2
      simp only [List.getElem?_cons_zero, Option.getD_some, sumL]
      omega
    | succ c =>
      have := ih c
      simp only [List.getElem?_cons_succ, sumL]
      omega

theorem elem_le_sum {l : List Int} (h : ∀ x ∈ l, 0 ≤ x) (c : Nat) : 0 ≤ l[c]?.getD 0 ∧ l[c]?.getD 0 ≤ sumL l := by
  have hz : ∀ m : Nat, sumL (List.replicate m 0) = 0 := by
    intro m
    induction m with
    | zero => rfl
    | succ m ih => simp [List.replicate_succ, sumL, ih]
  have h0 : ∀ c : Nat, 0 ≤ l[c]?.getD 0 := fun c => by
    cases e : l[c]? with
    | none => simp
    | some x => exact h x (List.mem_of_getElem? e)
  have hr : ∀ c : Nat, (List.replicate l.length (0 : Int))[c]?.getD 0 = 0 := fun c => by
    rw [List.getElem?_replicate]
    split <;> rfl
  have := (elem_sum (a := List.replicate l.length 0) (b := l) (by simp) (fun c => by rw [hr]; exact h0 c) c).1
  rw [hz, hr] at this
  exact ⟨h0 c, by omega⟩

theorem getI_low {a x hi y t : Int} (ha : 0 ≤ a) (hx : 0 ≤ x) (hxy : x ≤ y) (hyt : y ≤ t) (hth : t ≤ hi) : getI a x hi ≤ getI a y t := by
  unfold getI
  by_cases h0 : t = 0
  · have : x = 0 := by omega
    subst this
    simp [h0]
  · have ht : 0 < t := by omega
    rw [if_neg (by omega), if_neg h0]
    rw [Int.le_ediv_iff_mul_le ht]
    have hq : 0 ≤ a * x / hi := Int.ediv_nonneg (Int.mul_nonneg ha hx) (by omega)
    have h1 : a * x / hi * t ≤ a * x / hi * hi := Int.mul_le_mul_of_nonneg_left hth hq
    have h2 : a * x / hi * hi ≤ a * x := Int.ediv_mul_le _ (by omega)
    have h3 : a * x ≤ a * y := Int.mul_le_mul_of_nonneg_left hxy ha
    omega

theorem getI_high {a x S hi y t : Int} (ha : 0 ≤ a) (hy0 : 0 ≤ y) (hyt : y ≤ t) (hth : t ≤ hi) (h : y + S ≤ x + t) (hx : 0 ≤ x) (hS : S ≤ hi) : getI a y t ≤ getI a (x + (hi - S)) hi := by
  unfold getI
  have hx0 : 0 ≤ x + (hi - S) := by omega
  by_cases h0 : t = 0
  · rw [if_pos h0]
    split
    · exact Int.le_refl _
    · exact Int.ediv_nonneg (Int.mul_nonneg ha hx0) (by omega)
  · have ht : 0 < t := by omega
    rw [if_neg (by omega : ¬ hi = 0), if_neg h0]
    rw [Int.le_ediv_iff_mul_le (by omega)]
    have h1 : a * y / t * t ≤ a * y := Int.ediv_mul_le _ h0
    have hqa : a * y / t ≤ a := by
      have : a * y / t ≤ a * t / t := Int.ediv_le_ediv ht (Int.mul_le_mul_of_nonneg_left hyt ha)
      rwa [Int.mul_ediv_cancel _ h0] at this
    have h2 : a * y / t * (hi - t) ≤ a * (hi - t) := Int.mul_le_mul_of_nonneg_right hqa (by omega)
    have h3 : a * (y + (hi - t)) ≤ a * (x + (hi - S)) := Int.mul_le_mul_of_nonneg_left (by omega) ha
    rw [Int.mul_add] at h3
    have h4 : a * y / t * hi = a * y / t * t + a * y / t * (hi - t) := by rw [← Int.mul_add]; congr 1; omega
    omega

theorem sumL_one {l : List Int} (h : l.length = 1) : l = [sumL l] := by
  match l, h with
  | [x], _ => simp [sumL]

theorem getI_self {a t : Int} (ht : 0 ≤ t) : getI a t t = if 0 < t then a else 0 := by
  unfold getI
  by_cases h : t = 0
  · rw [if_pos h, if_neg (by omega)]
  · rw [if_neg h, if_pos (by omega), Int.mul_ediv_cancel _ h]

theorem part_sums {n : Int} {s : Strat} {l : List Int} (hs : stratB n s = true) (h : PartOf n s l) (c : Nat) :
    (0 ≤ l[c]?.getD 0 ∧ l[c]?.getD 0 ≤ sumL l) ∧ (l[c]?.getD 0 + sumL s.seen ≤ s.seen[c]?.getD 0 + sumL l) := by
  have h1 := elem_le_sum (l := l) (fun x hx => (h.val x hx).1) c
  exact ⟨h1, (elem_sum h.len h.low c).1⟩

theorem range_in {n : Int} {s : Strat} {l : List Int} (hs : stratB n s = true) (h : PartOf n s l) {c : Nat} (hc : c < s.seen.length) :
    (rangeAt s c).1 ≤ getI s.coins (l[c]?.getD 0) (sumL l) ∧ getI s.coins (l[c]?.getD 0) (sumL l) ≤ (rangeAt s c).2 := by
  obtain ⟨h1, h2, h3, h4⟩ := strat_nums hs
  have h5 := seen_at hs c
  have h6 := part_sums hs h c
  have h7 := h.low c
  refine ⟨?_, ?_⟩
  · simp only [rangeAt, leastI]
    by_cases ha : s.seen.length = 1
    · rw [if_pos (by simp [ha])]
      have e := sumL_one (l := l) (by rw [h.len]; exact ha)
      have hc0 : c = 0 := by omega
      subst hc0
      have e2 : l[0]?.getD 0 = sumL l := by rw [e]; simp [sumL]
      rw [e2, getI_self (by omega)]
      have := h.lo
      split
      · rw [if_pos (by omega)]; exact Int.le_refl _
      · split <;> omega
    · rw [if_neg (by simp; omega)]
      exact getI_low h1.1 h5.1 h7 h6.1.2 h.hi
  · simp only [rangeAt, mostI]
    exact getI_high h1.1 h6.1.1 h6.1.2 h.hi h6.2 h5.1 (by omega)

theorem gK_in {n : Int} {ss : List Strat} {ll : List (List Int)} (hf : faultI n ss = 0) (h : truthB n ss ll = true) {c : Nat} (hc : (c : Int) < n) : ∀ k, k ≤ ss.length →
    (boundK ss c k).1 ≤ gK ss ll c k ∧ gK ss ll c k ≤ (boundK ss c k).2
  | 0, _ => by simp [boundK, gK]
  | k + 1, hk => by
    have ih := gK_in hf h hc k (by omega)
    have hs := List.getElem?_eq_getElem (l := ss) (i := k) (by omega)
    obtain ⟨l, hl, hp⟩ := truth_part hf h hs
    have hv := (fault_zero hf).2.2.2 k _ hs
    have hlen := (stratB_iff.1 hv).2.2.2.2.1
    have := range_in hv hp (c := c) (by omega)
    have e : gI ss ll k c = getI ss[k].coins (l[c]?.getD 0) (sumL l) := by simp [gI, hs, hl]
    simp only [boundK, gK, addP, hs, Option.getD_some, e]
    omega

/-! ### All unseen with one company -/
def takenRow (s : Strat) (c : Nat) : List Int := s.seen.set c (s.seen[c]?.getD 0 + (s.hi - sumL s.seen))
def takenL (ss : List Strat) (c : Nat) : List (List Int) := ss.map fun s => takenRow s c

theorem sumL_set : ∀ {l : List Int} {c : Nat} {x : Int}, c < l.length → sumL (l.set c x) = sumL l + x - l[c]?.getD 0
  | [], c, x, h => by simp at h
  | y :: l, 0, x, _ => by simp [sumL]; omega
  | y :: l, c + 1, x, h => by
    have := sumL_set (l := l) (c := c) (x := x) (by simpa using h)
    simp only [List.set_cons_succ, sumL, this, List.getElem?_cons_succ]
    omega

theorem getD_set {l : List Int} {c o : Nat} {x : Int} (h : c < l.length) : (l.set c x)[o]?.getD 0 = if o = c then x else l[o]?.getD 0 := by
  rw [List.getElem?_set]
  by_cases e : c = o
  · subst e; simp [h]
  · simp [e, Ne.symm e]

theorem taken_sum {s : Strat} {c : Nat} (hc : c < s.seen.length) : sumL (takenRow s c) = s.hi := by
  unfold takenRow
  rw [sumL_set hc]
  omega

theorem taken_part {n : Int} {s : Strat} {c : Nat} (hs : stratB n s = true) (hc : c < s.seen.length) : PartOf n s (takenRow s c) := by
  obtain ⟨h1, h2, h3, h4⟩ := strat_nums hs
  obtain ⟨_, _, h5, _, _, _, _⟩ := stratB_iff.1 hs
  have h6 := elem_le_sum (fun x hx => (h4 x hx).1) c
  refine ⟨by simp [takenRow], fun x hx => ?_, fun o => ?_, by rw [taken_sum hc]; exact h5, by rw [taken_sum hc]; exact Int.le_refl _⟩
  · unfold takenRow at hx
    rcases List.mem_or_eq_of_mem_set hx with hx | rfl
    · exact h4 x hx
    · omega
  · unfold takenRow
    rw [getD_set hc]
    split
    · rename_i e; subst e; omega
    · exact Int.le_refl _

theorem taken_truth {n : Int} {ss : List Strat} {c : Nat} (hf : faultI n ss = 0) (hc : (c : Int) < n) : truthB n ss (takenL ss c) = true := by
  refine truth_of hf (by simp [takenL]) fun k s l hs hl => ?_
  have hv := (fault_zero hf).2.2.2 k _ hs
  have hlen := (stratB_iff.1 hv).2.2.2.2.1
  simp only [takenL, List.getElem?_map, hs, Option.map_some, Option.some.injEq] at hl
  subst hl
  exact taken_part hv (by omega)

theorem taken_gI {n : Int} {ss : List Strat} {c o : Nat} (hf : faultI n ss = 0) (hc : (c : Int) < n) {k : Nat} {s : Strat} (hs : ss[k]? = some s) :
    gI ss (takenL ss c) k o = getI s.coins (if o = c then s.seen[c]?.getD 0 + (s.hi - sumL s.seen) else s.seen[o]?.getD 0) s.hi := by
  have hv := (fault_zero hf).2.2.2 k _ hs
  have hlen := (stratB_iff.1 hv).2.2.2.2.1
  have hl : (takenL ss c)[k]? = some (takenRow s c) := by simp [takenL, hs]
  simp only [gI, hs, hl, Option.getD_some]
  rw [taken_sum (by omega)]
  unfold takenRow
  rw [getD_set (by omega)]

theorem taken_most {n : Int} {ss : List Strat} {c : Nat} (hf : faultI n ss = 0) (hc : (c : Int) < n) : ∀ k, k ≤ ss.length → gK ss (takenL ss c) c k = (boundK ss c k).2
  | 0, _ => rfl
  | k + 1, hk => by
    have ih := taken_most hf hc k (by omega)
    have hs := List.getElem?_eq_getElem (l := ss) (i := k) (by omega)
    simp only [gK, boundK, addP, ih, taken_gI hf hc hs, if_pos, hs, Option.getD_some, rangeAt, mostI]

theorem taken_least {n : Int} {ss : List Strat} {c o : Nat} (hf : faultI n ss = 0) (hc : (c : Int) < n) (ho : (o : Int) < n) (hne : o ≠ c) : ∀ k, k ≤ ss.length → gK ss (takenL ss c) o k = (boundK ss o k).1
  | 0, _ => rfl
  | k + 1, hk => by
    have ih := taken_least hf hc ho hne k (by omega)
    have hs := List.getElem?_eq_getElem (l := ss) (i := k) (by omega)
    have hv := (fault_zero hf).2.2.2 k _ hs
    have hlen := (stratB_iff.1 hv).2.2.2.2.1
    have h1 : ¬ ((((ss[k].seen.length : Int) == 1) : Bool) = true) := by simp; omega
    simp only [gK, boundK, addP, ih, taken_gI hf hc hs, if_neg hne, hs, Option.getD_some, rangeAt, leastI]
    rw [if_neg h1]

/-! ### One company alone -/
def aloneL (ss : List Strat) : Nat → Int
  | 0 => 0
  | k + 1 => aloneL ss k + if 0 < (ss[k]?.getD Strat.none).hi then (if 0 < (ss[k]?.getD Strat.none).lo then (ss[k]?.getD Strat.none).coins else 0) else 0
def aloneH (ss : List Strat) : Nat → Int
  | 0 => 0
  | k + 1 => aloneH ss k + if 0 < (ss[k]?.getD Strat.none).hi then (ss[k]?.getD Strat.none).coins else 0

theorem alone_bound {ss : List Strat} (hf : faultI 1 ss = 0) : ∀ k, k ≤ ss.length → boundK ss 0 k = (aloneL ss k, aloneH ss k)
  | 0, _ => rfl
  | k + 1, hk => by
    have ih := alone_bound hf k (by omega)
    have hs := List.getElem?_eq_getElem (l := ss) (i := k) (by omega)
    have hv := (fault_zero hf).2.2.2 k _ hs
    obtain ⟨_, g1, g2, _, hlen, _, _⟩ := stratB_iff.1 hv
    obtain ⟨h1, h2, h3, h4⟩ := strat_nums hv
    have e := sumL_one (l := ss[k].seen) (by omega)
    have e2 : ss[k].seen[0]?.getD 0 = sumL ss[k].seen := by rw [e]; simp [sumL]
    have e3 : sumL ss[k].seen + (ss[k].hi - sumL ss[k].seen) = ss[k].hi := by omega
    simp only [boundK, addP, ih, aloneL, aloneH, hs, Option.getD_some, rangeAt, leastI, mostI, e2, e3, getI_self h2.1]
    rw [if_pos (by simp; omega)]
    congr 2
    split
    · rw [if_pos (by omega)]
    · simp

theorem alone_bd {ss : List Strat} (hf : faultI 1 ss = 0) (k : Nat) (hk : k ≤ ss.length) : (0 ≤ aloneL ss k ∧ aloneL ss k ≤ k * 10000000000000) ∧ (0 ≤ aloneH ss k ∧ aloneH ss k ≤ k * 10000000000000) := by
  have := boundK_bd (fault_zero hf).2.2.2 0 k
  rwa [alone_bound hf k hk] at this
end Go.Proofs.Ytobeffjdfhkjeaa
namespace Go.Proofs.Ytobeffjdfhkjeaa
open Go Go.RowKit

/-! ### What is left of a stratum: plain -/
theorem take_bd {n : Int} {s : Strat} {l : List Int} {ss : List Strat} {ll : List (List Int)} {k : Nat} (hs : ss[k]? = some s) (hl : ll[k]? = some l) (ha : 0 ≤ s.coins) (h0 : ∀ x ∈ l, 0 ≤ x) (ht : 0 < sumL l) :
    ∀ j, j ≤ l.length → sumL l * cK ss ll k j ≤ s.coins * sumL (l.take j) ∧ s.coins * sumL (l.take j) ≤ sumL l * cK ss ll k j + j * (sumL l - 1)
  | 0, _ => by simp [cK, sumL]
  | j + 1, hj => by
    have ih := take_bd (n := n) hs hl ha h0 ht j (by omega)
    have hx := List.getElem?_eq_getElem (l := l) (i := j) (by omega)
    have e : gI ss ll k j = s.coins * l[j] / sumL l := by
      simp only [gI, hs, hl, hx, Option.getD_some, getI]
      rw [if_neg (by omega)]
    rw [sumL_take hx, cK, e, Int.mul_add, Int.mul_add]
    have h1 := Int.ediv_mul_le (s.coins * l[j]) (b := sumL l) (by omega)
    have h2 := Int.lt_ediv_add_one_mul_self (s.coins * l[j]) ht
    rw [Int.add_mul] at h2
    rw [Int.mul_comm (sumL l) (s.coins * l[j] / sumL l)]
    have e2 : ((j + 1 : Nat) : Int) * (sumL l - 1) = j * (sumL l - 1) + (sumL l - 1) := by
      rw [Int.natCast_add, Int.add_mul]
      simp
    omega

def mostI' (m : Nat) (ss : List Strat) (ll : List (List Int)) : Nat → Int
  | 0 => 0
  | k + 1 => mostI' m ss ll k + if 0 < sumL (ll[k]?.getD []) then (m : Int) - 1 else (ss[k]?.getD Strat.none).coins

theorem cK_left {m : Nat} {ss : List Strat} {ll : List (List Int)} (hf : faultI m ss = 0) (h : truthB m ss ll = true) {k : Nat} (hk : k < ss.length) :
    0 ≤ (ss[k]?.getD Strat.none).coins - cK ss ll k m ∧ (ss[k]?.getD Strat.none).coins - cK ss ll k m ≤ if 0 < sumL (ll[k]?.getD []) then (m : Int) - 1 else (ss[k]?.getD Strat.none).coins := by
  have hs := List.getElem?_eq_getElem (l := ss) (i := k) (by omega)
  obtain ⟨l, hl, hp⟩ := truth_part hf h hs
  have hv := (fault_zero hf).2.2.2 k _ hs
  have hlen := (stratB_iff.1 hv).2.2.2.2.1
  obtain ⟨h1, h2, h3, h4⟩ := strat_nums hv
  have hl0 : ∀ x ∈ l, 0 ≤ x := fun x hx => (hp.val x hx).1
  have hlm : l.length = m := by have := hp.len; omega
  have hm1 := (fault_zero hf).2.1
  rw [hs, hl, Option.getD_some, Option.getD_some]
  by_cases ht : 0 < sumL l
  · rw [if_pos ht]
    have := take_bd (n := m) hs hl h1.1 hl0 ht l.length (Nat.le_refl _)
    rw [List.take_length, hlm] at this
    obtain ⟨ha, hb⟩ := this
    rw [Int.mul_comm (ss[k].coins)] at ha hb
    have hc1 : cK ss ll k m ≤ ss[k].coins := Int.le_of_mul_le_mul_left ha ht
    refine ⟨by omega, ?_⟩
    have hd : sumL l * (ss[k].coins - cK ss ll k m) ≤ m * (sumL l - 1) := by rw [Int.mul_sub]; omega
    have he : (m : Int) * (sumL l - 1) < sumL l * m := by rw [Int.mul_sub, Int.mul_comm (sumL l)]; omega
    have := Int.lt_of_mul_lt_mul_left (Int.lt_of_le_of_lt hd he) (by omega : 0 ≤ sumL l)
    omega
  · rw [if_neg ht]
    have ht0 : sumL l = 0 := by have := sumL_nonneg hl0; omega
    have : ∀ j, cK ss ll k j = 0 := by
      intro j
      induction j with
      | zero => rfl
      | succ j ih => simp [cK, ih, gI, hs, hl, getI, ht0]
    rw [this]
    omega

theorem fund_left {m : Nat} {ss : List Strat} {ll : List (List Int)} (hf : faultI m ss = 0) (h : truthB m ss ll = true) : ∀ k, k ≤ ss.length → 0 ≤ fK m ss ll k ∧ fK m ss ll k ≤ mostI' m ss ll k
  | 0, _ => by simp [fK, mostI']
  | k + 1, hk => by
    have ih := fund_left hf h k (by omega)
    have := cK_left hf h (k := k) (by omega)
    simp only [fK, mostI']
    omega

theorem mostI'_bd {m : Nat} {ss : List Strat} {ll : List (List Int)} (hf : faultI m ss = 0) : ∀ k, 0 ≤ mostI' m ss ll k ∧ mostI' m ss ll k ≤ k * 10000000
  | 0 => by simp [mostI']
  | k + 1 => by
    have ih := mostI'_bd (ll := ll) hf k
    have hm := (fault_zero hf).2.1
    have hm5 := (fault_zero hf).2.2.1
    have hc : 0 ≤ (ss[k]?.getD Strat.none).coins ∧ (ss[k]?.getD Strat.none).coins ≤ 10000000 := by
      cases e : ss[k]? with
      | none => simp [Strat.none]
      | some s => exact (strat_nums ((fault_zero hf).2.2.2 k s e)).1
    simp only [mostI']
    split <;> omega

theorem gets_at {m : Nat} {ss : List Strat} {ll : List (List Int)} {c : Nat} (hc : c < m) : (getsL m ss ll)[c]? = some (gK ss ll c ss.length) := by
  simp [getsL, hc]

theorem sum_gets_take (m : Nat) (ss : List Strat) (ll : List (List Int)) : ∀ j, j ≤ m → sumL ((getsL m ss ll).take j) = tK ss ll ss.length j
  | 0, _ => by simp [sumL, tK]
  | j + 1, hj => by
    have ih := sum_gets_take m ss ll j (by omega)
    rw [sumL_take (x := gK ss ll j ss.length) (gets_at (by omega)), ih, tK]

theorem sum_gets (m : Nat) (ss : List Strat) (ll : List (List Int)) : sumL (getsL m ss ll) = tK ss ll ss.length m := by
  have := sum_gets_take m ss ll m (Nat.le_refl _)
  rwa [List.take_of_length_le (by simp [getsL])] at this

theorem gets_fund (m : Nat) (ss : List Strat) (ll : List (List Int)) : sumL (getsL m ss ll) + fundI m ss ll = sK ss ss.length := by
  rw [sum_gets, fundI, fK_eq]
  omega

theorem gets_ok {m : Nat} {ss : List Strat} {ll : List (List Int)} (hF : Fit m ss ll) (hm5 : m ≤ 5) : SumOk (getsL m ss ll) := by
  intro k hk
  have hkm : k ≤ m := by simpa [getsL] using hk
  rw [sum_gets_take m ss ll k hkm]
  have := tK_bd hF k
  omega
end Go.Proofs.Ytobeffjdfhkjeaa
namespace Go.Proofs.Ytobeffjdfhkjeaa
open Go Go.RowKit

/-! ### One more journey is seen: plain -/
def seenMore (s : Strat) (c : Nat) : Strat := { s with seen := s.seen.set c (s.seen[c]?.getD 0 + 1) }
def moreL (ss : List Strat) (i c : Nat) : List Strat := ss.set i (seenMore (ss[i]?.getD Strat.none) c)

theorem getI_mono {a x y t : Int} (ha : 0 ≤ a) (hxy : x ≤ y) (ht : 0 ≤ t) : getI a x t ≤ getI a y t := by
  unfold getI
  split
  · exact Int.le_refl _
  · exact Int.ediv_le_ediv (by omega) (Int.mul_le_mul_of_nonneg_left hxy ha)

theorem more_range {n : Int} {s : Strat} {c : Nat} (hs : stratB n s = true) (hn : 2 ≤ n) (hc : c < s.seen.length) (o : Nat) :
    ((rangeAt s o).1 ≤ (rangeAt (seenMore s c) o).1 ∧ (rangeAt (seenMore s c) o).2 ≤ (rangeAt s o).2) ∧
    (o = c → (rangeAt (seenMore s c) o).2 = (rangeAt s o).2) ∧ (o ≠ c → (rangeAt (seenMore s c) o).1 = (rangeAt s o).1) := by
  obtain ⟨h1, h2, h3, h4⟩ := strat_nums hs
  have hlen := (stratB_iff.1 hs).2.2.2.2.1
  have e1 : sumL (seenMore s c).seen = sumL s.seen + 1 := by
    simp only [seenMore]
    rw [sumL_set hc]
    omega
  have e2 : (seenMore s c).seen.length = s.seen.length := by simp [seenMore]
  have e3 : (seenMore s c).seen[o]?.getD 0 = if o = c then s.seen[c]?.getD 0 + 1 else s.seen[o]?.getD 0 := by
    simp only [seenMore]
    rw [getD_set hc]
  have ha : ¬ ((((s.seen.length : Int) == 1) : Bool) = true) := by simp; omega
  simp only [rangeAt, leastI, mostI, e1, e2, e3, if_neg ha]
  have e4 : (seenMore s c).coins = s.coins := rfl
  have e5 : (seenMore s c).hi = s.hi := rfl
  rw [e4, e5]
  by_cases ho : o = c
  · subst ho
    rw [if_pos rfl]
    refine ⟨⟨getI_mono h1.1 (by omega) h2.1, ?_⟩, fun _ => ?_, fun h => by simp at h⟩
    · rw [show s.seen[o]?.getD 0 + 1 + (s.hi - (sumL s.seen + 1)) = s.seen[o]?.getD 0 + (s.hi - sumL s.seen) by omega]
      exact Int.le_refl _
    · rw [show s.seen[o]?.getD 0 + 1 + (s.hi - (sumL s.seen + 1)) = s.seen[o]?.getD 0 + (s.hi - sumL s.seen) by omega]
  · simp only [if_neg ho]
    exact ⟨⟨Int.le_refl _, getI_mono h1.1 (by omega) h2.1⟩, fun h => absurd h ho, by simp⟩

theorem more_bound {n : Int} {ss : List Strat} {i c : Nat} (hf : faultI n ss = 0) (hn : 2 ≤ n) (hi : i < ss.length) (hc : (c : Int) < n) (o : Nat) : ∀ k, k ≤ ss.length →
    ((boundK ss o k).1 ≤ (boundK (moreL ss i c) o k).1 ∧ (boundK (moreL ss i c) o k).2 ≤ (boundK ss o k).2) ∧
    (o = c → (boundK (moreL ss i c) o k).2 = (boundK ss o k).2) ∧ (o ≠ c → (boundK (moreL ss i c) o k).1 = (boundK ss o k).1)
  | 0, _ => by simp [boundK]
  | k + 1, hk => by
    obtain ⟨⟨a1, a2⟩, a3, a4⟩ := more_bound hf hn hi hc o k (by omega)
    have hs := List.getElem?_eq_getElem (l := ss) (i := k) (by omega)
    have hv := (fault_zero hf).2.2.2 k _ hs
    have hlen := (stratB_iff.1 hv).2.2.2.2.1
    simp only [boundK, addP]
    by_cases e : k = i
    · subst e
      have e1 : (moreL ss k c)[k]?.getD Strat.none = seenMore ss[k] c := by simp [moreL, hs, hi]
      obtain ⟨⟨b1, b2⟩, b3, b4⟩ := more_range hv hn (c := c) (by omega) o
      rw [e1, hs, Option.getD_some]
      exact ⟨⟨by omega, by omega⟩, fun h => by rw [a3 h, b3 h], fun h => by rw [a4 h, b4 h]⟩
    · have e1 : (moreL ss i c)[k]?.getD Strat.none = ss[k] := by
        simp only [moreL, List.getElem?_set]
        rw [if_neg (Ne.symm e), hs, Option.getD_some]
      rw [e1, hs, Option.getD_some]
      exact ⟨⟨by omega, by omega⟩, fun h => by rw [a3 h], fun h => by rw [a4 h]⟩
end Go.Proofs.Ytobeffjdfhkjeaa
namespace Go.Proofs.Ytobeffjdfhkjeaa
open Go Go.RowKit

/-! ### Lists in another order: plain -/
def rotL {α : Type} (t : Nat) (l : List α) : List α := l.drop t ++ l.take t
theorem rotL_len {α : Type} {t : Nat} {l : List α} (h : t ≤ l.length) : (rotL t l).length = l.length := by simp [rotL]; omega
theorem rotL_mem {α : Type} {t : Nat} {l : List α} {x : α} (h : x ∈ rotL t l) : x ∈ l := by
  simp only [rotL, List.mem_append] at h
  rcases h with h | h
  · exact List.mem_of_mem_drop h
  · exact List.mem_of_mem_take h
theorem rotL_at {α : Type} {t k : Nat} {l : List α} (ht : t < l.length) (hk : k < l.length) : (rotL t l)[k]? = l[(k + t) % l.length]? := by
  unfold rotL
  by_cases h : k < l.length - t
  · rw [List.getElem?_append_left (by simp; omega), List.getElem?_drop, Nat.mod_eq_of_lt (by omega), Nat.add_comm]
  · rw [List.getElem?_append_right (by simp; omega), List.length_drop, List.getElem?_take, if_pos (by omega)]
    have e : (k + t) % l.length = k - (l.length - t) := by
      rw [show k + t = (k - (l.length - t)) + l.length by omega, Nat.add_mod_right, Nat.mod_eq_of_lt (by omega)]
    rw [e]

theorem sumL_rot (t : Nat) (l : List Int) : sumL (rotL t l) = sumL l := by
  unfold rotL
  rw [sumL_append]
  have := sumL_append (l.take t) (l.drop t)
  rw [List.take_append_drop] at this
  omega

def bsum (c : Nat) : List Strat → Int × Int
  | [] => (0, 0)
  | s :: ss => addP (rangeAt s c) (bsum c ss)
theorem addP_comm (a b : Int × Int) : addP a b = addP b a := by simp [addP, Int.add_comm]
theorem addP_assoc (a b c : Int × Int) : addP (addP a b) c = addP a (addP b c) := by simp [addP, Int.add_assoc]
theorem addP_zero (a : Int × Int) : addP a (0, 0) = a := by simp [addP]
theorem zero_addP (a : Int × Int) : addP (0, 0) a = a := by simp [addP]
theorem bsum_append (c : Nat) (a b : List Strat) : bsum c (a ++ b) = addP (bsum c a) (bsum c b) := by
  induction a with
  | nil => simp [bsum, zero_addP]
  | cons x a ih => simp [bsum, ih, addP_assoc]
theorem boundK_bsum (ss : List Strat) (c : Nat) : ∀ k, k ≤ ss.length → boundK ss c k = bsum c (ss.take k)
  | 0, _ => by simp [boundK, bsum]
  | k + 1, hk => by
    have hs := List.getElem?_eq_getElem (l := ss) (i := k) (by omega)
    rw [boundK, boundK_bsum ss c k (by omega), List.take_add_one, bsum_append, hs, Option.getD_some]
    simp [bsum, addP_zero]
theorem bound_all (ss : List Strat) (c : Nat) : boundK ss c ss.length = bsum c ss := by
  rw [boundK_bsum ss c _ (Nat.le_refl _), List.take_length]
theorem bound_rot (ss : List Strat) (t c : Nat) (ht : t ≤ ss.length) : boundK (rotL t ss) c ss.length = boundK ss c ss.length := by
  have h := bound_all (rotL t ss) c
  rw [rotL_len ht] at h
  rw [h, bound_all]
  unfold rotL
  rw [bsum_append, addP_comm, ← bsum_append, List.take_append_drop]

def gsum (c : Nat) : List (Strat × List Int) → Int
  | [] => 0
  | x :: l => getI x.1.coins (x.2[c]?.getD 0) (sumL x.2) + gsum c l
theorem gsum_append (c : Nat) (a b : List (Strat × List Int)) : gsum c (a ++ b) = gsum c a + gsum c b := by
  induction a with
  | nil => simp [gsum]
  | cons x a ih => simp [gsum, ih, Int.add_assoc]
theorem gK_gsum {ss : List Strat} {ll : List (List Int)} (hl : ll.length = ss.length) (c : Nat) : ∀ k, k ≤ ss.length → gK ss ll c k = gsum c ((ss.zip ll).take k)
  | 0, _ => by simp [gK, gsum]
  | k + 1, hk => by
    have hs := List.getElem?_eq_getElem (l := ss) (i := k) (by omega)
    have hll := List.getElem?_eq_getElem (l := ll) (i := k) (by omega)
    have hz : (ss.zip ll)[k]? = some (ss[k], ll[k]) := by
      rw [List.getElem?_zip_eq_some]
      exact ⟨hs, hll⟩
    rw [gK, gK_gsum hl c k (by omega), List.take_add_one, gsum_append, hz]
    simp [gsum, gI, hs, hll]
theorem g_all {ss : List Strat} {ll : List (List Int)} (hl : ll.length = ss.length) (c : Nat) : gK ss ll c ss.length = gsum c (ss.zip ll) := by
  rw [gK_gsum hl c _ (Nat.le_refl _), List.take_of_length_le (by simp; omega)]
theorem zip_rot {ss : List Strat} {ll : List (List Int)} (hl : ll.length = ss.length) (t : Nat) : (rotL t ss).zip (rotL t ll) = rotL t (ss.zip ll) := by
  unfold rotL
  rw [List.zip_append (by simp [hl])]
  simp [List.zip_eq_zipWith, List.drop_zipWith, List.take_zipWith]
theorem g_rot {ss : List Strat} {ll : List (List Int)} (hl : ll.length = ss.length) {t : Nat} (ht : t ≤ ss.length) (c : Nat) : gK (rotL t ss) (rotL t ll) c ss.length = gK ss ll c ss.length := by
  have h := g_all (ss := rotL t ss) (ll := rotL t ll) (by rw [rotL_len ht, rotL_len (by omega)]; exact hl) c
  rw [rotL_len ht] at h
  rw [h, g_all hl, zip_rot hl]
  unfold rotL
  rw [gsum_append, Int.add_comm, ← gsum_append, List.take_append_drop]
theorem gets_rot {m : Nat} {ss : List Strat} {ll : List (List Int)} (hl : ll.length = ss.length) {t : Nat} (ht : t ≤ ss.length) : getsL m (rotL t ss) (rotL t ll) = getsL m ss ll := by
  unfold getsL
  rw [rotL_len ht]
  exact List.map_congr_left fun c _ => g_rot hl ht c

def csum : List Strat → Int
  | [] => 0
  | s :: ss => s.coins + csum ss
theorem csum_append (a b : List Strat) : csum (a ++ b) = csum a + csum b := by
  induction a with
  | nil => simp [csum]
  | cons x a ih => simp [csum, ih, Int.add_assoc]
theorem sK_csum (ss : List Strat) : ∀ k, k ≤ ss.length → sK ss k = csum (ss.take k)
  | 0, _ => by simp [sK, csum]
  | k + 1, hk => by
    have hs := List.getElem?_eq_getElem (l := ss) (i := k) (by omega)
    rw [sK, sK_csum ss k (by omega), List.take_add_one, csum_append, hs]
    simp [csum]
theorem s_rot (ss : List Strat) {t : Nat} (ht : t ≤ ss.length) : sK (rotL t ss) ss.length = sK ss ss.length := by
  have h := sK_csum (rotL t ss) (rotL t ss).length (Nat.le_refl _)
  rw [List.take_length, rotL_len ht] at h
  rw [h, sK_csum ss _ (Nat.le_refl _), List.take_length]
  unfold rotL
  rw [csum_append, Int.add_comm, ← csum_append, List.take_append_drop]
theorem fund_rot {m : Nat} {ss : List Strat} {ll : List (List Int)} (hl : ll.length = ss.length) {t : Nat} (ht : t ≤ ss.length) : fundI m (rotL t ss) (rotL t ll) = fundI m ss ll := by
  unfold fundI
  rw [fK_eq, fK_eq, rotL_len ht, s_rot ss ht]
  have : ∀ j, tK (rotL t ss) (rotL t ll) ss.length j = tK ss ll ss.length j := by
    intro j
    induction j with
    | zero => rfl
    | succ j ih => rw [tK, tK, ih, g_rot hl ht]
  rw [this]

theorem fault_of {n : Int} {ss : List Strat} (h8 : ss.length ≤ 8) (h1 : 1 ≤ n) (h5 : n ≤ 5) (h : ∀ s ∈ ss, stratB n s = true) : faultI n ss = 0 :=
  fault_ok (by omega) (inB_iff.2 ⟨h1, h5⟩) fun j s _ hs => h s (List.mem_of_getElem? hs)
theorem fault_mem {n : Int} {ss : List Strat} (hf : faultI n ss = 0) : ∀ s ∈ ss, stratB n s = true := fun s hs => by
  obtain ⟨j, hj, rfl⟩ := List.getElem_of_mem hs
  exact (fault_zero hf).2.2.2 j _ (List.getElem?_eq_getElem hj)
theorem fault_rot {n : Int} {ss : List Strat} (hf : faultI n ss = 0) {t : Nat} (ht : t ≤ ss.length) : faultI n (rotL t ss) = 0 := by
  obtain ⟨a, b, c, d⟩ := fault_zero hf
  exact fault_of (by rw [rotL_len ht]; exact a) b c fun s hs => fault_mem hf s (rotL_mem hs)
theorem truth_rot {n : Int} {ss : List Strat} {ll : List (List Int)} (hf : faultI n ss = 0) (h : truthB n ss ll = true) {t : Nat} (ht : t < ss.length) : truthB n (rotL t ss) (rotL t ll) = true := by
  have hl : ll.length = ss.length := by
    simp only [truthB, Bool.and_eq_true] at h
    exact (fit_of hf h.1).len
  refine truth_of (fault_rot hf (by omega)) (by rw [rotL_len (by omega), rotL_len (by omega)]; exact hl) fun k s l hs hk => ?_
  have hkl : k < ss.length := by
    have := (List.getElem?_eq_some_iff.1 hs).1
    rwa [rotL_len (by omega)] at this
  rw [rotL_at ht hkl] at hs
  rw [rotL_at (by omega) (by omega), hl] at hk
  obtain ⟨l', hl', hp⟩ := truth_part hf h hs
  rw [hk] at hl'
  cases hl'
  exact hp

/-- A stratum with its companies in another order. -/
def turnS (c : Nat) (s : Strat) : Strat := { s with seen := rotL c s.seen }
theorem turn_strat {n : Int} {s : Strat} {c : Nat} (hs : stratB n s = true) (hc : c ≤ s.seen.length) : stratB n (turnS c s) = true := by
  obtain ⟨h1, h2, h3, h4, h5, h6, h7⟩ := stratB_iff.1 hs
  refine stratB_iff.2 ⟨h1, h2, h3, h4, ?_, fun j x hx => ?_, ?_⟩
  · simp only [turnS]; rw [rotL_len hc]; exact h5
  · have := rotL_mem (List.mem_of_getElem? hx)
    obtain ⟨i, hi, rfl⟩ := List.getElem_of_mem this
    exact h6 i _ (List.getElem?_eq_getElem hi)
  · simp only [turnS]; rw [sumL_rot]; exact h7
theorem turn_fault {n : Int} {ss : List Strat} {c : Nat} (hf : faultI n ss = 0) (hc : (c : Int) < n) : faultI n (ss.map (turnS c)) = 0 := by
  obtain ⟨a, b, c', d⟩ := fault_zero hf
  refine fault_of (by simpa using a) b c' fun s hs => ?_
  obtain ⟨s', hs', rfl⟩ := List.mem_map.1 hs
  have hv := fault_mem hf s' hs'
  have := (stratB_iff.1 hv).2.2.2.2.1
  exact turn_strat hv (by omega)
theorem turn_range {n : Nat} {s : Strat} {c k : Nat} (hs : stratB n s = true) (hc : c < n) (hk : k < n) : rangeAt (turnS c s) k = rangeAt s ((k + c) % n) := by
  have hl := (stratB_iff.1 hs).2.2.2.2.1
  have hl' : s.seen.length = n := by omega
  unfold rangeAt
  have e1 : (turnS c s).seen = rotL c s.seen := rfl
  have e2 : (turnS c s).coins = s.coins := rfl
  have e3 : (turnS c s).lo = s.lo := rfl
  have e4 : (turnS c s).hi = s.hi := rfl
  rw [e1, e2, e3, e4, rotL_len (by omega), sumL_rot, rotL_at (by omega) (by omega), hl']
theorem turn_bound {n : Nat} {ss : List Strat} {c k : Nat} (hf : faultI n ss = 0) (hc : c < n) (hk : k < n) : ∀ i, i ≤ ss.length → boundK (ss.map (turnS c)) k i = boundK ss ((k + c) % n) i
  | 0, _ => rfl
  | i + 1, hi => by
    have hs := List.getElem?_eq_getElem (l := ss) (i := i) (by omega)
    have hs' : (ss.map (turnS c))[i]? = some (turnS c ss[i]) := by simp [hs]
    rw [boundK, boundK, turn_bound hf hc hk i (by omega), hs, hs', Option.getD_some, Option.getD_some, turn_range ((fault_zero hf).2.2.2 i _ hs) hc hk]
end Go.Proofs.Ytobeffjdfhkjeaa
namespace Go.Proofs.Ytobeffjdfhkjeaa
open Go Go.RowKit

/-! ### All truths are tried: plain -/
def uptoL : Nat → Nat → List Int → List (List Int)
  | 0, _, b => [b]
  | d + 1, most, b => (List.range (most + 1)).flatMap fun n => uptoL d (most - n) (b ++ [(n : Int)])
/-- The first n rounds of its loop. -/
def uptoP (d most : Nat) (b : List Int) (n : Nat) : List (List Int) := (List.range n).flatMap fun k => uptoL d (most - k) (b ++ [(k : Int)])
theorem uptoP_zero (d most : Nat) (b : List Int) : uptoP d most b 0 = [] := rfl
theorem uptoP_succ (d most : Nat) (b : List Int) (n : Nat) : uptoP d most b (n + 1) = uptoP d most b n ++ uptoL d (most - n) (b ++ [(n : Int)]) := by
  simp [uptoP, List.range_succ]
theorem uptoP_all (d most : Nat) (b : List Int) : uptoP d most b (most + 1) = uptoL (d + 1) most b := rfl

theorem uptoL_len : ∀ (d most : Nat) (b : List Int), most ≤ 4 → (uptoL d most b).length ≤ 5 ^ d
  | 0, _, _, _ => by simp [uptoL]
  | d + 1, most, b, h => by
    have hP : ∀ n, n ≤ most + 1 → (uptoP d most b n).length ≤ n * 5 ^ d := by
      intro n
      induction n with
      | zero => intro _; simp [uptoP]
      | succ n ih =>
        intro hn
        rw [uptoP_succ, List.length_append, Nat.succ_mul]
        have h1 := ih (by omega)
        have h2 := uptoL_len d (most - n) (b ++ [(n : Int)]) (by omega)
        omega
    rw [← uptoP_all]
    refine Nat.le_trans (hP _ (Nat.le_refl _)) ?_
    rw [Nat.pow_succ, Nat.mul_comm]
    exact Nat.mul_le_mul_left _ (by omega)
theorem uptoP_len (d most : Nat) (b : List Int) (h : most ≤ 4) (n : Nat) (hn : n ≤ most + 1) : (uptoP d most b n).length ≤ n * 5 ^ d := by
  induction n with
  | zero => simp [uptoP]
  | succ n ih =>
    rw [uptoP_succ, List.length_append, Nat.succ_mul]
    have h1 := ih (by omega)
    have h2 := uptoL_len d (most - n) (b ++ [(n : Int)]) (by omega)
    omega

theorem mem_uptoL : ∀ (d most : Nat) (b x : List Int), x ∈ uptoL d most b ↔ ∃ y : List Int, x = b ++ y ∧ y.length = d ∧ (∀ z ∈ y, 0 ≤ z) ∧ sumL y ≤ most
  | 0, most, b, x => by
    simp only [uptoL, List.mem_singleton]
    constructor
    · rintro rfl
      exact ⟨[], by simp, rfl, by simp, by simp [sumL]⟩
    · rintro ⟨y, rfl, hy, _⟩
      simp [List.length_eq_zero_iff.1 hy]
  | d + 1, most, b, x => by
    simp only [uptoL, List.mem_flatMap, List.mem_range]
    constructor
    · rintro ⟨n, hn, hx⟩
      obtain ⟨y, rfl, hy, h0, hs⟩ := (mem_uptoL d (most - n) _ x).1 hx
      refine ⟨(n : Int) :: y, by simp, by simp [hy], ?_, ?_⟩
      · intro z hz
        rcases List.mem_cons.1 hz with rfl | hz
        · omega
        · exact h0 z hz
      · simp only [sumL]; omega
    · rintro ⟨y, rfl, hy, h0, hs⟩
      match y, hy with
      | z :: y, hy =>
        have hz := h0 z (by simp)
        have hy0 := sumL_nonneg (l := y) fun q hq => h0 q (by simp [hq])
        simp only [sumL] at hs
        refine ⟨z.toNat, by omega, ?_⟩
        refine (mem_uptoL d _ _ _).2 ⟨y, ?_, by simpa using hy, fun q hq => h0 q (by simp [hq]), by omega⟩
        rw [show ((z.toNat : Nat) : Int) = z by omega]
        simp

def plusL (a b : List Int) : List Int := List.zipWith (· + ·) a b
theorem plusL_len {a b : List Int} (h : b.length = a.length) : (plusL a b).length = a.length := by simp [plusL, h]
theorem plusL_at {a b : List Int} {c : Nat} (h : b.length = a.length) : (plusL a b)[c]?.getD 0 = a[c]?.getD 0 + b[c]?.getD 0 := by
  simp only [plusL, List.getElem?_zipWith]
  by_cases hc : c < a.length
  · rw [List.getElem?_eq_getElem hc, List.getElem?_eq_getElem (by omega : c < b.length)]; rfl
  · rw [List.getElem?_eq_none (by omega), List.getElem?_eq_none (by omega)]; rfl
theorem plusL_sum : ∀ {a b : List Int}, b.length = a.length → sumL (plusL a b) = sumL a + sumL b
  | [], [], _ => by simp [plusL, sumL]
  | x :: a, y :: b, h => by
    have := plusL_sum (a := a) (b := b) (by simpa using h)
    simp only [plusL, List.zipWith_cons_cons, sumL] at *
    omega
theorem ext_getD {a b : List Int} (hl : a.length = b.length) (h : ∀ c : Nat, a[c]?.getD 0 = b[c]?.getD 0) : a = b := by
  apply List.ext_getElem hl
  intro i h1 h2
  have := h i
  rw [List.getElem?_eq_getElem h1, List.getElem?_eq_getElem h2] at this
  exact this

def truthsL (s : Strat) : List (List Int) := ((uptoL s.seen.length (s.hi - sumL s.seen).toNat []).map (plusL s.seen)).filter (partB s)

theorem partB_of {n : Int} {s : Strat} {l : List Int} (h : PartOf n s l) : partB s l = true := by
  simp only [partB, Bool.and_eq_true]
  exact ⟨lowB_iff.2 fun c _ => h.low c, inB_iff.2 ⟨h.lo, h.hi⟩⟩

theorem mem_truths {n : Int} {s : Strat} (hs : stratB n s = true) (l : List Int) : l ∈ truthsL s ↔ PartOf n s l := by
  obtain ⟨k1, k2, k3, k4⟩ := strat_nums hs
  constructor
  · intro h
    obtain ⟨h1, h2⟩ := List.mem_filter.1 h
    obtain ⟨x, hx, rfl⟩ := List.mem_map.1 h1
    obtain ⟨y, rfl, hy, h0, hsum⟩ := (mem_uptoL _ _ _ _).1 hx
    simp only [partB, Bool.and_eq_true] at h2
    have h3 := inB_iff.1 h2.2
    have hy0 := elem_le_sum h0
    refine ⟨plusL_len hy, fun z hz => ?_, fun c => ?_, h3.1, h3.2⟩
    · obtain ⟨j, hj, rfl⟩ := List.getElem_of_mem hz
      have e := plusL_at (a := s.seen) (b := x) (c := j) hy
      rw [List.getElem?_eq_getElem hj, Option.getD_some] at e
      rw [e]
      have h5 := elem_le_sum (fun z hz => (k4 z hz).1) j
      have h6 := hy0 j
      omega
    · rw [plusL_at hy]
      have := (hy0 c).1
      omega
  · intro h
    have hl := h.len
    refine List.mem_filter.2 ⟨List.mem_map.2 ⟨List.zipWith (· - ·) l s.seen, ?_, ?_⟩, partB_of h⟩
    · have hd : ∀ c : Nat, (List.zipWith (· - ·) l s.seen)[c]?.getD 0 = l[c]?.getD 0 - s.seen[c]?.getD 0 := by
        intro c
        rw [List.getElem?_zipWith]
        by_cases hc : c < l.length
        · rw [List.getElem?_eq_getElem hc, List.getElem?_eq_getElem (by omega : c < s.seen.length)]; rfl
        · rw [List.getElem?_eq_none (by omega), List.getElem?_eq_none (by omega)]; rfl
      have hlen : (List.zipWith (· - ·) l s.seen).length = s.seen.length := by simp [hl]
      refine (mem_uptoL _ _ _ _).2 ⟨_, (List.nil_append _).symm, hlen, fun z hz => ?_, ?_⟩
      · obtain ⟨j, hj, rfl⟩ := List.getElem_of_mem hz
        have e := hd j
        rw [List.getElem?_eq_getElem hj, Option.getD_some] at e
        rw [e]
        have := h.low j
        omega
      · have e : plusL s.seen (List.zipWith (· - ·) l s.seen) = l := by
          refine ext_getD (by rw [plusL_len hlen, hl]) fun c => ?_
          rw [plusL_at hlen, hd]
          omega
        have := plusL_sum (a := s.seen) (b := List.zipWith (· - ·) l s.seen) hlen
        rw [e] at this
        have := h.hi
        omega
    · have hd : ∀ c : Nat, (List.zipWith (· - ·) l s.seen)[c]?.getD 0 = l[c]?.getD 0 - s.seen[c]?.getD 0 := by
        intro c
        rw [List.getElem?_zipWith]
        by_cases hc : c < l.length
        · rw [List.getElem?_eq_getElem hc, List.getElem?_eq_getElem (by omega : c < s.seen.length)]; rfl
        · rw [List.getElem?_eq_none (by omega), List.getElem?_eq_none (by omega)]; rfl
      have hlen : (List.zipWith (· - ·) l s.seen).length = s.seen.length := by simp [hl]
      refine ext_getD (by rw [plusL_len hlen, hl]) fun c => ?_
      rw [plusL_at hlen, hd]
      omega

/-! ### The range of a company -/
def getsT (s : Strat) (l : List Int) (c : Nat) : Int := getI s.coins (l[c]?.getD 0) (sumL l)
def minmax : List Int → Int × Int → Int × Int
  | [], r => r
  | x :: l, r => minmax l (min r.1 x, max r.2 x)
theorem minmax_snoc (l : List Int) (x : Int) (r : Int × Int) : minmax (l ++ [x]) r = (min (minmax l r).1 x, max (minmax l r).2 x) := by
  induction l generalizing r with
  | nil => rfl
  | cons y l ih => simp [minmax, ih]
theorem minmax_bd : ∀ (l : List Int) (r : Int × Int), (minmax l r).1 ≤ r.1 ∧ r.2 ≤ (minmax l r).2 ∧ ∀ x ∈ l, (minmax l r).1 ≤ x ∧ x ≤ (minmax l r).2
  | [], r => by simp [minmax]
  | y :: l, r => by
    obtain ⟨h1, h2, h3⟩ := minmax_bd l (min r.1 y, max r.2 y)
    refine ⟨by simp only [minmax]; omega, by simp only [minmax]; omega, fun x hx => ?_⟩
    rcases List.mem_cons.1 hx with rfl | hx
    · simp only [minmax]; omega
    · exact h3 x hx
theorem minmax_in : ∀ (l : List Int) (r : Int × Int) (lo hi : Int), lo ≤ r.1 → r.2 ≤ hi → (∀ x ∈ l, lo ≤ x ∧ x ≤ hi) → lo ≤ (minmax l r).1 ∧ (minmax l r).2 ≤ hi
  | [], r, lo, hi, h1, h2, _ => ⟨h1, h2⟩
  | y :: l, r, lo, hi, h1, h2, h3 => by
    have hy := h3 y (by simp)
    exact minmax_in l _ lo hi (by simp only; omega) (by simp only; omega) fun x hx => h3 x (by simp [hx])
/-- The range, as it is found: the first truth, then all others. -/
def spanI (s : Strat) (c : Nat) : Int × Int := minmax (((truthsL s).map fun l => getsT s l c).drop 1) (getsT s ((truthsL s)[0]?.getD []) c, getsT s ((truthsL s)[0]?.getD []) c)

theorem span_range {n : Int} {s : Strat} (hs : stratB n s = true) (hn : 1 ≤ n) {c : Nat} (hc : c < s.seen.length) : truthsL s ≠ [] ∧ spanI s c = rangeAt s c := by
  obtain ⟨k1, k2, k3, k4⟩ := strat_nums hs
  have hm0 : takenRow s c ∈ truthsL s := (mem_truths hs _).2 (taken_part hs hc)
  have hne : truthsL s ≠ [] := fun e => by rw [e] at hm0; cases hm0
  refine ⟨hne, ?_⟩
  obtain ⟨l0, L, hL⟩ : ∃ l0 L, truthsL s = l0 :: L := by
    cases h : truthsL s with
    | nil => exact absurd h hne
    | cons a b => exact ⟨a, b, rfl⟩
  have hall : ∀ l ∈ truthsL s, (rangeAt s c).1 ≤ getsT s l c ∧ getsT s l c ≤ (rangeAt s c).2 := fun l hl => range_in hs ((mem_truths hs l).1 hl) hc
  have hsp : spanI s c = minmax (L.map fun l => getsT s l c) (getsT s l0 c, getsT s l0 c) := by
    unfold spanI
    rw [hL]
    rfl
  have hbd := minmax_bd (L.map fun l => getsT s l c) (getsT s l0 c, getsT s l0 c)
  have hin := minmax_in (L.map fun l => getsT s l c) (getsT s l0 c, getsT s l0 c) (rangeAt s c).1 (rangeAt s c).2 (hall l0 (by rw [hL]; simp)).1 (hall l0 (by rw [hL]; simp)).2 (fun x hx => by
    obtain ⟨l, hl, rfl⟩ := List.mem_map.1 hx
    exact hall l (by rw [hL]; simp [hl]))
  have hatt : ∀ l ∈ truthsL s, (minmax (L.map fun l => getsT s l c) (getsT s l0 c, getsT s l0 c)).1 ≤ getsT s l c ∧ getsT s l c ≤ (minmax (L.map fun l => getsT s l c) (getsT s l0 c, getsT s l0 c)).2 := fun l hl => by
    rw [hL] at hl
    rcases List.mem_cons.1 hl with rfl | hl
    · exact ⟨hbd.1, hbd.2.1⟩
    · exact hbd.2.2 _ (List.mem_map.2 ⟨l, hl, rfl⟩)
  have hhi : getsT s (takenRow s c) c = (rangeAt s c).2 := by
    unfold getsT
    rw [taken_sum hc]
    unfold takenRow
    rw [getD_set hc, if_pos rfl]
    rfl
  have hlo : ∃ l ∈ truthsL s, getsT s l c = (rangeAt s c).1 := by
    by_cases ha : s.seen.length = 1
    · obtain ⟨_, g1, g2, _, _, _, g3⟩ := stratB_iff.1 hs
      obtain rfl : c = 0 := by omega
      have e := sumL_one ha
      refine ⟨[s.lo], (mem_truths hs _).2 ⟨by simp [ha], by simp; omega, fun o => ?_, by simp [sumL], by simp [sumL]; omega⟩, ?_⟩
      · cases o with
        | zero => rw [e]; simp [sumL]; omega
        | succ o => rw [List.getElem?_eq_none (by omega), List.getElem?_eq_none (by simp)]; exact Int.le_refl _
      · simp only [getsT, List.getElem?_cons_zero, Option.getD_some, sumL, Int.add_zero, rangeAt, leastI]
        rw [if_pos (show ((((s.seen.length : Int) == 1) : Bool) = true) by simp [ha]), getI_self g1]
    · obtain ⟨o, ho, hoc⟩ : ∃ o, o < s.seen.length ∧ o ≠ c := by
        by_cases h0 : c = 0
        · exact ⟨1, by omega, by omega⟩
        · exact ⟨0, by omega, by omega⟩
      refine ⟨takenRow s o, (mem_truths hs _).2 (taken_part hs ho), ?_⟩
      unfold getsT
      rw [taken_sum ho]
      unfold takenRow
      rw [getD_set ho, if_neg (Ne.symm hoc)]
      simp only [rangeAt, leastI]
      rw [if_neg (by simp; omega)]
  obtain ⟨l, hl, hlo⟩ := hlo
  rw [hsp]
  have q1 := (hatt l hl).1
  have q2 := (hatt _ hm0).2
  rw [hlo] at q1
  rw [hhi] at q2
  refine Prod.ext ?_ ?_
  · omega
  · omega

theorem truths_len {n : Int} {s : Strat} (hs : stratB n s = true) (hu : s.hi - sumL s.seen ≤ 4) : (truthsL s).length ≤ 5 ^ s.seen.length := by
  refine Nat.le_trans (List.length_filter_le _ _) ?_
  rw [List.length_map]
  exact uptoL_len _ _ _ (by omega)
end Go.Proofs.Ytobeffjdfhkjeaa
