import Derived.Test.YtobeffjdfhkjeaaPB
set_option linter.unusedVariables false
set_option linter.unusedSimpArgs false
namespace Go.Proofs.Ytobeffjdfhkjeaa
open Go Go.RowKit

/-! ### What a company gets in a truth is in its range: plain -/
/-- Journeys that are a stratum's part of a truth. -/
structure PartOf (n : Int) (s : Strat) (l : List Int) : Prop where
  len : l.length = s.seen.length
  val : ∀ x ∈ l, 0 ≤ x ∧ x ≤ 400
  low : ∀ c : Nat, s.seen[c]?.getD 0 ≤ l[c]?.getD 0
  lo : s.lo ≤ sumL l
  hi : sumL l ≤ s.hi

theorem getD_le_of {a b : List Int} (h : ∀ c : Nat, c < a.length → a[c]?.getD 0 ≤ b[c]?.getD 0) (hl : b.length = a.length) : ∀ c : Nat, a[c]?.getD 0 ≤ b[c]?.getD 0 := by
  intro c
  by_cases hc : c < a.length
  · exact h c hc
  · rw [List.getElem?_eq_none (by omega), List.getElem?_eq_none (by omega)]
    exact Int.le_refl _

theorem lowB_iff {seen l : List Int} : lowB seen l = true ↔ ∀ c, c < l.length → seen[c]?.getD 0 ≤ l[c]?.getD 0 := by
  simp [lowB, List.all_eq_true]

theorem partOf_of {n : Int} {s : Strat} {l : List Int} (hs : stratB n s = true) (hr : rowB n l = true) (hp : partB s l = true) : PartOf n s l := by
  obtain ⟨_, _, _, _, h5, _, _⟩ := stratB_iff.1 hs
  obtain ⟨h1, h2⟩ := rowB_iff.1 hr
  simp only [partB, Bool.and_eq_true] at hp
  obtain ⟨h3, h4⟩ := hp
  have h4 := inB_iff.1 h4
  have hl : l.length = s.seen.length := by omega
  refine ⟨hl, fun x hx => ?_, ?_, h4.1, h4.2⟩
  · obtain ⟨j, hj, rfl⟩ := List.getElem_of_mem hx
    exact h2 j _ (List.getElem?_eq_getElem hj)
  · exact getD_le_of (fun c hc => lowB_iff.1 h3 c (by omega)) hl

theorem of_partOf {n : Int} {s : Strat} {l : List Int} (hs : stratB n s = true) (h : PartOf n s l) : rowB n l = true ∧ partB s l = true := by
  obtain ⟨_, _, _, _, h5, _, _⟩ := stratB_iff.1 hs
  refine ⟨rowB_iff.2 ⟨by rw [h.len]; exact h5, fun j x hx => h.val x (List.mem_of_getElem? hx)⟩, ?_⟩
  simp only [partB, Bool.and_eq_true]
  exact ⟨lowB_iff.2 fun c _ => h.low c, inB_iff.2 ⟨h.lo, h.hi⟩⟩

theorem truth_part {n : Int} {ss : List Strat} {ll : List (List Int)} (hf : faultI n ss = 0) (h : truthB n ss ll = true) {k : Nat} {s : Strat} (hs : ss[k]? = some s) : ∃ l, ll[k]? = some l ∧ PartOf n s l := by
  simp only [truthB, Bool.and_eq_true] at h
  have hF := fit_of hf h.1
  have hk : k < ll.length := by rw [hF.len]; exact (List.getElem?_eq_some_iff.1 hs).1
  have hl := List.getElem?_eq_getElem hk
  refine ⟨ll[k], hl, partOf_of (hF.val k s hs) (hF.row k _ hl) ?_⟩
  have := List.all_eq_true.1 h.2 k (List.mem_range.2 hk)
  rwa [hs, hl, Option.getD_some, Option.getD_some] at this

theorem truth_of {n : Int} {ss : List Strat} {ll : List (List Int)} (hf : faultI n ss = 0) (hlen : ll.length = ss.length) (h : ∀ (k : Nat) (s : Strat) (l : List Int), ss[k]? = some s → ll[k]? = some l → PartOf n s l) : truthB n ss ll = true := by
  have hv := (fault_zero hf).2.2.2
  simp only [truthB, Bool.and_eq_true]
  refine ⟨listsB_iff.2 ⟨hlen, fun j l hl => ?_⟩, partsB_yes fun k hk => ?_⟩
  · have hj : j < ss.length := by rw [← hlen]; exact (List.getElem?_eq_some_iff.1 hl).1
    have hs := List.getElem?_eq_getElem hj
    exact (of_partOf (hv j _ hs) (h j _ l hs hl)).1
  · have hl := List.getElem?_eq_getElem hk
    have hs := List.getElem?_eq_getElem (l := ss) (i := k) (by omega)
    rw [hs, hl, Option.getD_some, Option.getD_some]
    exact (of_partOf (hv k _ hs) (h k _ _ hs hl)).2

/-- One element grows by at most as much as the sum. -/
theorem elem_sum : ∀ {a b : List Int}, b.length = a.length → (∀ c : Nat, a[c]?.getD 0 ≤ b[c]?.getD 0) → ∀ c : Nat, b[c]?.getD 0 + sumL a ≤ a[c]?.getD 0 + sumL b ∧ sumL a ≤ sumL b
  | [], [], _, _, c => by simp [sumL]
  | x :: a, y :: b, hl, h, c => by
    have h0 := h 0
    simp only [List.getElem?_cons_zero, Option.getD_some] at h0
    have ih := elem_sum (a := a) (b := b) (by simpa using hl) (fun c => by simpa using h (c + 1))
    cases c with
    | zero =>
      have := (ih 0).2
      simp only [List.getElem?_cons_zero, Option.getD_some, sumL]
      omega
    | succ c =>
      have := ih c
      simp only [List.getElem?_cons_succ, sumL]
      omega

theorem elem_le_sum {l : List Int} (h : ∀ x ∈ l, 0 ≤ x) (c : Nat) : 0 ≤ l[c]?.getD 0 ∧ l[c]?.getD 0 ≤ sumL l := by
  have hz : ∀ m : Nat, sumL (List.replicate m 0) = 0 := by
    intro m
    induction m with
    | zero => rfl
    | succ m ih => simp [List.replicate_succ, sumL, ih]
  have h0 : ∀ c : Nat, 0 ≤ l[c]?.getD 0 := fun c => by
    cases e : l[c]? with
    | none => simp
    | some x => exact h x (List.mem_of_getElem? e)
  have hr : ∀ c : Nat, (List.replicate l.length (0 : Int))[c]?.getD 0 = 0 := fun c => by
    rw [List.getElem?_replicate]
    split <;> rfl
  have := (elem_sum (a := List.replicate l.length 0) (b := l) (by simp) (fun c => by rw [hr]; exact h0 c) c).1
  rw [hz, hr] at this
  exact ⟨h0 c, by omega⟩

theorem getI_low {a x hi y t : Int} (ha : 0 ≤ a) (hx : 0 ≤ x) (hxy : x ≤ y) (hyt : y ≤ t) (hth : t ≤ hi) : getI a x hi ≤ getI a y t := by
  unfold getI
  by_cases h0 : t = 0
  · have : x = 0 := by omega
    subst this
    simp [h0]
  · have ht : 0 < t := by omega
    rw [if_neg (by omega), if_neg h0]
    rw [Int.le_ediv_iff_mul_le ht]
    have hq : 0 ≤ a * x / hi := Int.ediv_nonneg (Int.mul_nonneg ha hx) (by omega)
    have h1 : a * x / hi * t ≤ a * x / hi * hi := Int.mul_le_mul_of_nonneg_left hth hq
    have h2 : a * x / hi * hi ≤ a * x := Int.ediv_mul_le _ (by omega)
    have h3 : a * x ≤ a * y := Int.mul_le_mul_of_nonneg_left hxy ha
    omega

theorem getI_high {a x S hi y t : Int} (ha : 0 ≤ a) (hy0 : 0 ≤ y) (hyt : y ≤ t) (hth : t ≤ hi) (h : y + S ≤ x + t) (hx : 0 ≤ x) (hS : S ≤ hi) : getI a y t ≤ getI a (x + (hi - S)) hi := by
  unfold getI
  have hx0 : 0 ≤ x + (hi - S) := by omega
  by_cases h0 : t = 0
  · rw [if_pos h0]
    split
    · exact Int.le_refl _
    · exact Int.ediv_nonneg (Int.mul_nonneg ha hx0) (by omega)
  · have ht : 0 < t := by omega
    rw [if_neg (by omega : ¬ hi = 0), if_neg h0]
    rw [Int.le_ediv_iff_mul_le (by omega)]
    have h1 : a * y / t * t ≤ a * y := Int.ediv_mul_le _ h0
    have hqa : a * y / t ≤ a := by
      have : a * y / t ≤ a * t / t := Int.ediv_le_ediv ht (Int.mul_le_mul_of_nonneg_left hyt ha)
      rwa [Int.mul_ediv_cancel _ h0] at this
    have h2 : a * y / t * (hi - t) ≤ a * (hi - t) := Int.mul_le_mul_of_nonneg_right hqa (by omega)
    have h3 : a * (y + (hi - t)) ≤ a * (x + (hi - S)) := Int.mul_le_mul_of_nonneg_left (by omega) ha
    rw [Int.mul_add] at h3
    have h4 : a * y / t * hi = a * y / t * t + a * y / t * (hi - t) := by rw [← Int.mul_add]; congr 1; omega
    omega

theorem sumL_one {l : List Int} (h : l.length = 1) : l = [sumL l] := by
  match l, h with
  | [x], _ => simp [sumL]

theorem getI_self {a t : Int} (ht : 0 ≤ t) : getI a t t = if 0 < t then a else 0 := by
  unfold getI
  by_cases h : t = 0
  · rw [if_pos h, if_neg (by omega)]
  · rw [if_neg h, if_pos (by omega), Int.mul_ediv_cancel _ h]

theorem part_sums {n : Int} {s : Strat} {l : List Int} (hs : stratB n s = true) (h : PartOf n s l) (c : Nat) :
    (0 ≤ l[c]?.getD 0 ∧ l[c]?.getD 0 ≤ sumL l) ∧ (l[c]?.getD 0 + sumL s.seen ≤ s.seen[c]?.getD 0 + sumL l) := by
  have h1 := elem_le_sum (l := l) (fun x hx => (h.val x hx).1) c
  exact ⟨h1, (elem_sum h.len h.low c).1⟩

theorem range_in {n : Int} {s : Strat} {l : List Int} (hs : stratB n s = true) (h : PartOf n s l) {c : Nat} (hc : c < s.seen.length) :
    (rangeAt s c).1 ≤ getI s.coins (l[c]?.getD 0) (sumL l) ∧ getI s.coins (l[c]?.getD 0) (sumL l) ≤ (rangeAt s c).2 := by
  obtain ⟨h1, h2, h3, h4⟩ := strat_nums hs
  have h5 := seen_at hs c
  have h6 := part_sums hs h c
  have h7 := h.low c
  refine ⟨?_, ?_⟩
  · simp only [rangeAt, leastI]
    by_cases ha : s.seen.length = 1
    · rw [if_pos (by simp [ha])]
      have e := sumL_one (l := l) (by rw [h.len]; exact ha)
      have hc0 : c = 0 := by omega
      subst hc0
      have e2 : l[0]?.getD 0 = sumL l := by rw [e]; simp [sumL]
      rw [e2, getI_self (by omega)]
      have := h.lo
      split
      · rw [if_pos (by omega)]; exact Int.le_refl _
      · split <;> omega
    · rw [if_neg (by simp; omega)]
      exact getI_low h1.1 h5.1 h7 h6.1.2 h.hi
  · simp only [rangeAt, mostI]
    exact getI_high h1.1 h6.1.1 h6.1.2 h.hi h6.2 h5.1 (by omega)

theorem gK_in {n : Int} {ss : List Strat} {ll : List (List Int)} (hf : faultI n ss = 0) (h : truthB n ss ll = true) {c : Nat} (hc : (c : Int) < n) : ∀ k, k ≤ ss.length →
    (boundK ss c k).1 ≤ gK ss ll c k ∧ gK ss ll c k ≤ (boundK ss c k).2
  | 0, _ => by simp [boundK, gK]
  | k + 1, hk => by
    have ih := gK_in hf h hc k (by omega)
    have hs := List.getElem?_eq_getElem (l := ss) (i := k) (by omega)
    obtain ⟨l, hl, hp⟩ := truth_part hf h hs
    have hv := (fault_zero hf).2.2.2 k _ hs
    have hlen := (stratB_iff.1 hv).2.2.2.2.1
    have := range_in hv hp (c := c) (by omega)
    have e : gI ss ll k c = getI ss[k].coins (l[c]?.getD 0) (sumL l) := by simp [gI, hs, hl]
    simp only [boundK, gK, addP, hs, Option.getD_some, e]
    omega

/-! ### All unseen with one company -/
def takenRow (s : Strat) (c : Nat) : List Int := s.seen.set c (s.seen[c]?.getD 0 + (s.hi - sumL s.seen))
def takenL (ss : List Strat) (c : Nat) : List (List Int) := ss.map fun s => takenRow s c

theorem sumL_set : ∀ {l : List Int} {c : Nat} {x : Int}, c < l.length → sumL (l.set c x) = sumL l + x - l[c]?.getD 0
  | [], c, x, h => by simp at h
  | y :: l, 0, x, _ => by simp [sumL]; omega
  | y :: l, c + 1, x, h => by
    have := sumL_set (l := l) (c := c) (x := x) (by simpa using h)
    simp only [List.set_cons_succ, sumL, this, List.getElem?_cons_succ]
    omega

theorem getD_set {l : List Int} {c o : Nat} {x : Int} (h : c < l.length) : (l.set c x)[o]?.getD 0 = if o = c then x else l[o]?.getD 0 := by
  rw [List.getElem?_set]
  by_cases e : c = o
  · subst e; simp [h]
  · simp [e, Ne.symm e]

theorem taken_sum {s : Strat} {c : Nat} (hc : c < s.seen.length) : sumL (takenRow s c) = s.hi := by
  unfold takenRow
  rw [sumL_set hc]
  omega

theorem taken_part {n : Int} {s : Strat} {c : Nat} (hs : stratB n s = true) (hc : c < s.seen.length) : PartOf n s (takenRow s c) := by
  obtain ⟨h1, h2, h3, h4⟩ := strat_nums hs
  obtain ⟨_, _, h5, _, _, _, _⟩ := stratB_iff.1 hs
  have h6 := elem_le_sum (fun x hx => (h4 x hx).1) c
  refine ⟨by simp [takenRow], fun x hx => ?_, fun o => ?_, by rw [taken_sum hc]; exact h5, by rw [taken_sum hc]; exact Int.le_refl _⟩
  · unfold takenRow at hx
    rcases List.mem_or_eq_of_mem_set hx with hx | rfl
    · exact h4 x hx
    · omega
  · unfold takenRow
    rw [getD_set hc]
    split
    · rename_i e; subst e; omega
    · exact Int.le_refl _

theorem taken_truth {n : Int} {ss : List Strat} {c : Nat} (hf : faultI n ss = 0) (hc : (c : Int) < n) : truthB n ss (takenL ss c) = true := by
  refine truth_of hf (by simp [takenL]) fun k s l hs hl => ?_
  have hv := (fault_zero hf).2.2.2 k _ hs
  have hlen := (stratB_iff.1 hv).2.2.2.2.1
  simp only [takenL, List.getElem?_map, hs, Option.map_some, Option.some.injEq] at hl
  subst hl
  exact taken_part hv (by omega)

theorem taken_gI {n : Int} {ss : List Strat} {c o : Nat} (hf : faultI n ss = 0) (hc : (c : Int) < n) {k : Nat} {s : Strat} (hs : ss[k]? = some s) :
    gI ss (takenL ss c) k o = getI s.coins (if o = c then s.seen[c]?.getD 0 + (s.hi - sumL s.seen) else s.seen[o]?.getD 0) s.hi := by
  have hv := (fault_zero hf).2.2.2 k _ hs
  have hlen := (stratB_iff.1 hv).2.2.2.2.1
  have hl : (takenL ss c)[k]? = some (takenRow s c) := by simp [takenL, hs]
  simp only [gI, hs, hl, Option.getD_some]
  rw [taken_sum (by omega)]
  unfold takenRow
  rw [getD_set (by omega)]

theorem taken_most {n : Int} {ss : List Strat} {c : Nat} (hf : faultI n ss = 0) (hc : (c : Int) < n) : ∀ k, k ≤ ss.length → gK ss (takenL ss c) c k = (boundK ss c k).2
  | 0, _ => rfl
  | k + 1, hk => by
    have ih := taken_most hf hc k (by omega)
    have hs := List.getElem?_eq_getElem (l := ss) (i := k) (by omega)
    simp only [gK, boundK, addP, ih, taken_gI hf hc hs, if_pos, hs, Option.getD_some, rangeAt, mostI]

theorem taken_least {n : Int} {ss : List Strat} {c o : Nat} (hf : faultI n ss = 0) (hc : (c : Int) < n) (ho : (o : Int) < n) (hne : o ≠ c) : ∀ k, k ≤ ss.length → gK ss (takenL ss c) o k = (boundK ss o k).1
  | 0, _ => rfl
  | k + 1, hk => by
    have ih := taken_least hf hc ho hne k (by omega)
    have hs := List.getElem?_eq_getElem (l := ss) (i := k) (by omega)
    have hv := (fault_zero hf).2.2.2 k _ hs
    have hlen := (stratB_iff.1 hv).2.2.2.2.1
    have h1 : ¬ ((((ss[k].seen.length : Int) == 1) : Bool) = true) := by simp; omega
    simp only [gK, boundK, addP, ih, taken_gI hf hc hs, if_neg hne, hs, Option.getD_some, rangeAt, leastI]
    rw [if_neg h1]

/-! ### One company alone -/
def aloneL (ss : List Strat) : Nat → Int
  | 0 => 0
  | k + 1 => aloneL ss k + if 0 < (ss[k]?.getD Strat.none).hi then (if 0 < (ss[k]?.getD Strat.none).lo then (ss[k]?.getD Strat.none).coins else 0) else 0
def aloneH (ss : List Strat) : Nat → Int
  | 0 => 0
  | k + 1 => aloneH ss k + if 0 < (ss[k]?.getD Strat.none).hi then (ss[k]?.getD Strat.none).coins else 0

theorem alone_bound {ss : List Strat} (hf : faultI 1 ss = 0) : ∀ k, k ≤ ss.length → boundK ss 0 k = (aloneL ss k, aloneH ss k)
  | 0, _ => rfl
  | k + 1, hk => by
    have ih := alone_bound hf k (by omega)
    have hs := List.getElem?_eq_getElem (l := ss) (i := k) (by omega)
    have hv := (fault_zero hf).2.2.2 k _ hs
    obtain ⟨_, g1, g2, _, hlen, _, _⟩ := stratB_iff.1 hv
    obtain ⟨h1, h2, h3, h4⟩ := strat_nums hv
    have e := sumL_one (l := ss[k].seen) (by omega)
    have e2 : ss[k].seen[0]?.getD 0 = sumL ss[k].seen := by rw [e]; simp [sumL]
    have e3 : sumL ss[k].seen + (ss[k].hi - sumL ss[k].seen) = ss[k].hi := by omega
    simp only [boundK, addP, ih, aloneL, aloneH, hs, Option.getD_some, rangeAt, leastI, mostI, e2, e3, getI_self h2.1]
    rw [if_pos (by simp; omega)]
    congr 2
    split
    · rw [if_pos (by omega)]
    · simp

theorem alone_bd {ss : List Strat} (hf : faultI 1 ss = 0) (k : Nat) (hk : k ≤ ss.length) : (0 ≤ aloneL ss k ∧ aloneL ss k ≤ k * 10000000000000) ∧ (0 ≤ aloneH ss k ∧ aloneH ss k ≤ k * 10000000000000) := by
  have := boundK_bd (fault_zero hf).2.2.2 0 k
  rwa [alone_bound hf k hk] at this
end Go.Proofs.Ytobeffjdfhkjeaa
