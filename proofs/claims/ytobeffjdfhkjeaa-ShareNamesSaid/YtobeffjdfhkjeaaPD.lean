import Derived.Test.YtobeffjdfhkjeaaMa
set_option linter.unusedVariables false
set_option linter.unusedSimpArgs false
namespace Go.Proofs.Ytobeffjdfhkjeaa
open Go Go.Proofs Go.RowKit

/-! ### The division of coins: plain -/
/-- Which of two companies comes first, by what is left of their parts. -/
def bf (r : Nat → Int) (i j : Nat) : Bool := decide (r j < r i) || (decide (r i = r j) && decide (i < j))
theorem bf_irrefl (r : Nat → Int) (i : Nat) : bf r i i = false := by simp [bf]
theorem bf_trans {r : Nat → Int} {i j k : Nat} (h1 : bf r i j = true) (h2 : bf r j k = true) : bf r i k = true := by
  simp only [bf, Bool.or_eq_true, Bool.and_eq_true, decide_eq_true_eq] at *
  omega
theorem bf_asymm {r : Nat → Int} {i j : Nat} (h1 : bf r i j = true) : bf r j i = false := by
  simp only [bf, Bool.or_eq_true, Bool.and_eq_true, decide_eq_true_eq, Bool.or_eq_false_iff, Bool.and_eq_false_iff, decide_eq_false_iff_not] at *
  omega
theorem bf_total {r : Nat → Int} {i j : Nat} (h : i ≠ j) : bf r i j = true ∨ bf r j i = true := by
  simp only [bf, Bool.or_eq_true, Bool.and_eq_true, decide_eq_true_eq] at *
  omega
/-- How many come before one. -/
def rank (r : Nat → Int) (n c : Nat) : Nat := (List.range n).countP fun i => bf r i c
theorem countP_before {p : Nat → Nat → Bool} (hi : ∀ i, p i i = false) (ha : ∀ i j, p i j = true → p j i = false) : ∀ {o : List Nat} {j c : Nat}, o.Pairwise (fun a b => p a b = true) → o[j]? = some c → o.countP (fun i => p i c) = j
  | [], j, c, _, h => by simp at h
  | a :: o, 0, c, hp, h => by
    simp only [List.getElem?_cons_zero, Option.some.injEq] at h
    subst h
    rw [List.countP_cons_of_neg (by simp [hi])]
    rw [List.countP_eq_zero]
    intro x hx
    rw [ha _ _ ((List.pairwise_cons.1 hp).1 x hx)]
    simp
  | a :: o, j + 1, c, hp, h => by
    simp only [List.getElem?_cons_succ] at h
    rw [List.countP_cons_of_pos (p := fun i => p i c) ((List.pairwise_cons.1 hp).1 c (List.mem_of_getElem? h)), countP_before hi ha (List.pairwise_cons.1 hp).2 h]
/-- An order: each company once, whoever comes first ahead. -/
structure Ordered (r : Nat → Int) (n : Nat) (o : List Nat) : Prop where
  perm : o.Perm (List.range n)
  sorted : o.Pairwise (fun a b => bf r a b = true)
theorem Ordered.rank_of {r : Nat → Int} {n : Nat} {o : List Nat} (h : Ordered r n o) {j c : Nat} (hj : o[j]? = some c) : rank r n c = j := by
  unfold rank
  rw [← h.perm.countP_eq]
  exact countP_before (p := bf r) (bf_irrefl r) (fun _ _ => bf_asymm) h.sorted hj
theorem Ordered.length {r : Nat → Int} {n : Nat} {o : List Nat} (h : Ordered r n o) : o.length = n := by
  simpa using h.perm.length_eq
theorem Ordered.get {r : Nat → Int} {n : Nat} {o : List Nat} (h : Ordered r n o) {c : Nat} (hc : c < n) : o[rank r n c]? = some c := by
  have hm : c ∈ o := h.perm.mem_iff.2 (List.mem_range.2 hc)
  obtain ⟨j, hj⟩ := List.getElem?_of_mem hm
  rw [h.rank_of hj]
  exact hj
theorem Ordered.lt {r : Nat → Int} {n : Nat} {o : List Nat} (h : Ordered r n o) {j c : Nat} (hj : o[j]? = some c) : c < n :=
  List.mem_range.1 (h.perm.mem_iff.1 (List.mem_of_getElem? hj))
theorem ordered_ex (r : Nat → Int) (n : Nat) : ∃ o, Ordered r n o := by
  let le : Nat → Nat → Bool := fun a b => decide (a = b) || bf r a b
  refine ⟨(List.range n).mergeSort le, List.mergeSort_perm _ _, ?_⟩
  have hs : ((List.range n).mergeSort le).Pairwise (fun a b => le a b = true) := by
    refine List.pairwise_mergeSort ?_ ?_ _
    · intro a b c h1 h2
      simp only [le, Bool.or_eq_true, decide_eq_true_eq] at *
      rcases h1 with rfl | h1
      · exact h2
      · rcases h2 with rfl | h2
        · exact .inr h1
        · exact .inr (bf_trans h1 h2)
    · intro a b
      simp only [le, Bool.or_eq_true, decide_eq_true_eq]
      by_cases e : a = b
      · exact .inl (.inl e)
      · rcases bf_total (r := r) e with h | h
        · exact .inl (.inr h)
        · exact .inr (.inr h)
  have hn : ((List.range n).mergeSort le).Nodup := (List.mergeSort_perm _ _).nodup_iff.2 List.nodup_range
  refine (hs.and hn).imp ?_
  intro a b ⟨h1, h2⟩
  simp only [le, Bool.or_eq_true, decide_eq_true_eq] at h1
  rcases h1 with h1 | h1
  · exact absurd h1 h2
  · exact h1
theorem rank_lt {r : Nat → Int} {n c : Nat} (hc : c < n) : rank r n c < n := by
  obtain ⟨o, h⟩ := ordered_ex r n
  have := (List.getElem?_eq_some_iff.1 (h.get hc)).1
  rwa [h.length] at this
theorem rank_inj {r : Nat → Int} {n c d : Nat} (hc : c < n) (hd : d < n) (e : rank r n c = rank r n d) : c = d := by
  obtain ⟨o, h⟩ := ordered_ex r n
  have h1 := h.get hc
  have h2 := h.get hd
  rw [e, h2] at h1
  exact (Option.some.inj h1).symm
theorem rank_mono {r : Nat → Int} {n c d : Nat} (hc : c < n) (hd : d < n) : bf r c d = true ↔ rank r n c < rank r n d := by
  obtain ⟨o, h⟩ := ordered_ex r n
  have key : ∀ {x y : Nat}, x < n → y < n → rank r n x < rank r n y → bf r x y = true := fun {x y} hx hy hl => by
    obtain ⟨l1, e1⟩ := List.getElem?_eq_some_iff.1 (h.get hx)
    obtain ⟨l2, e2⟩ := List.getElem?_eq_some_iff.1 (h.get hy)
    have := List.pairwise_iff_getElem.1 h.sorted _ _ l1 l2 hl
    rwa [e1, e2] at this
  refine ⟨fun hb => ?_, key hc hd⟩
  rcases Nat.lt_trichotomy (rank r n c) (rank r n d) with hl | he | hg
  · exact hl
  · have := rank_inj hc hd he
    subst this
    rw [bf_irrefl] at hb
    cases hb
  · have := bf_asymm (key hd hc hg)
    rw [this] at hb
    cases hb
theorem rank_ex {r : Nat → Int} {n i : Nat} (hi : i < n) : ∃ e, e < n ∧ rank r n e = i := by
  obtain ⟨o, h⟩ := ordered_ex r n
  have hl : i < o.length := by rw [h.length]; exact hi
  have := List.getElem?_eq_getElem hl
  exact ⟨_, h.lt this, h.rank_of this⟩
/-- What the reference has left, when some have had theirs. -/
def restI (r : Nat → Int) (n i c : Nat) : Int := if rank r n c < i then -1 else r c
/-- The first with the most left is whoever comes next. -/
theorem best_rank {r : Nat → Int} {n i b : Nat} (h0 : ∀ c, c < n → 0 ≤ r c) (hi : i < n) (hb : b < n) (hmax : ∀ c, c < n → restI r n i c ≤ restI r n i b) (hfst : ∀ c, c < b → restI r n i c < restI r n i b) : rank r n b = i := by
  obtain ⟨e, he, hre⟩ := rank_ex (r := r) hi
  have hee : restI r n i e = r e := by simp [restI, hre]
  have h1 := hmax e he
  have h2 := h0 e he
  have hbi : ¬ rank r n b < i := fun h => by
    have : restI r n i b = -1 := by simp [restI, h]
    omega
  have hbb : restI r n i b = r b := by simp [restI, hbi]
  by_cases hbe : b = e
  · rw [hbe]; exact hre
  · rcases bf_total (r := r) hbe with h | h
    · have := (rank_mono hb he).1 h
      omega
    · exfalso
      simp only [bf, Bool.or_eq_true, Bool.and_eq_true, decide_eq_true_eq] at h
      rcases h with h | ⟨h3, h4⟩
      · omega
      · have := hfst e h4
        omega
theorem restI_step {r : Nat → Int} {n i b c : Nat} (hb : b < n) (hc : c < n) (hr : rank r n b = i) : restI r n (i + 1) c = if c = b then -1 else restI r n i c := by
  unfold restI
  by_cases e : c = b
  · subst e
    rw [if_pos (by omega), if_pos rfl]
  · have : rank r n c ≠ i := fun h => e (rank_inj hc hb (h.trans hr.symm))
    rw [if_neg e]
    by_cases h : rank r n c < i
    · rw [if_pos h, if_pos (by omega)]
    · rw [if_neg h, if_neg (by omega)]

/-! The weights that count, the whole, the parts, what is left of them. -/
def divW (ws : List Int) : List Int := if sumL ws = 0 then ws.map (fun _ => 1) else ws
theorem divW_length (ws : List Int) : (divW ws).length = ws.length := by unfold divW; split <;> simp
def wholeW (ws : List Int) : Int := sumL (divW ws)
def wAt (ws : List Int) (c : Nat) : Int := (divW ws)[c]?.getD 0
def quoAt (coins : Int) (ws : List Int) (c : Nat) : Int := coins * wAt ws c / wholeW ws
def remAt (coins : Int) (ws : List Int) (c : Nat) : Int := coins * wAt ws c % wholeW ws
/-- What is left when the first parts were given. -/
def leftK (coins : Int) (ws : List Int) : Nat → Int
  | 0 => coins
  | k + 1 => leftK coins ws k - quoAt coins ws k
def leftAll (coins : Int) (ws : List Int) : Int := leftK coins ws ws.length
def divAt (coins : Int) (ws : List Int) (i c : Nat) : Int := quoAt coins ws c + if rank (remAt coins ws) ws.length c < i then 1 else 0
def divL (coins : Int) (ws : List Int) : List Int := (List.range ws.length).map (divAt coins ws (leftAll coins ws).toNat)
def divFault (coins : Int) (ws : List Int) : Int :=
  if 5 < ws.length then 3 else if ws.length = 0 ∨ ∃ x ∈ ws, ¬ (0 ≤ x ∧ x ≤ 1000000) then 1 else if ¬ (0 ≤ coins ∧ coins ≤ 10000000) then 2 else 0

/-- The good input. -/
structure DivOk (coins : Int) (ws : List Int) : Prop where
  len : 1 ≤ ws.length ∧ ws.length ≤ 5
  ws : ∀ x ∈ ws, 0 ≤ x ∧ x ≤ 1000000
  coins : 0 ≤ coins ∧ coins ≤ 10000000

section
variable {coins : Int} {ws : List Int} (h : DivOk coins ws)
include h
theorem DivOk.w : ∀ x ∈ divW ws, 0 ≤ x ∧ x ≤ 1000000 := by
  intro x hx
  unfold divW at hx
  split at hx
  · obtain ⟨y, _, rfl⟩ := List.mem_map.1 hx
    omega
  · exact h.ws x hx
theorem DivOk.wat (c : Nat) : 0 ≤ wAt ws c ∧ wAt ws c ≤ 1000000 := by
  unfold wAt
  cases e : (divW ws)[c]? with
  | none => simp
  | some x => exact h.w x (List.mem_of_getElem? e)
theorem DivOk.whole : 1 ≤ wholeW ws ∧ wholeW ws ≤ 5000000 := by
  have hb := sumL_bound (M := 1000000) (by omega) h.w
  rw [divW_length] at hb
  have hl := h.len
  refine ⟨?_, by unfold wholeW; omega⟩
  unfold wholeW
  have h0 := (sumL_bound (M := 1000000) (by omega) h.ws).1
  unfold divW at hb ⊢
  split
  · rename_i e
    have : ∀ l : List Int, sumL (l.map (fun _ => 1)) = l.length := by
      intro l
      induction l with
      | nil => rfl
      | cons a l ih => simp [sumL, ih]; omega
    rw [this]
    omega
  · omega
theorem DivOk.prod (c : Nat) : 0 ≤ coins * wAt ws c ∧ coins * wAt ws c ≤ 10000000000000 := by
  have h1 := h.wat c
  have h2 := h.coins
  refine ⟨Int.mul_nonneg h2.1 h1.1, ?_⟩
  calc coins * wAt ws c ≤ 10000000 * 1000000 := Int.mul_le_mul h2.2 h1.2 h1.1 (by omega)
    _ = _ := by decide
theorem DivOk.rem (c : Nat) : 0 ≤ remAt coins ws c ∧ remAt coins ws c < wholeW ws :=
  ⟨Int.emod_nonneg _ (by have := h.whole; omega), Int.emod_lt_of_pos _ (by have := h.whole; omega)⟩
theorem DivOk.quo (c : Nat) : 0 ≤ quoAt coins ws c ∧ quoAt coins ws c ≤ 10000000000000 := by
  have h1 := h.prod c
  have h2 := h.whole
  refine ⟨Int.ediv_nonneg h1.1 (by omega), Int.le_trans (Int.ediv_le_self _ h1.1) h1.2⟩
/-- What is left, times the whole, is what is left of the parts given so far and the parts still to come. -/
theorem DivOk.left_at (k : Nat) (hk : k ≤ ws.length) : ∃ S, 0 ≤ S ∧ S ≤ k * (wholeW ws - 1) ∧ wholeW ws * leftK coins ws k = S + coins * sumL ((divW ws).drop k) := by
  induction k with
  | zero => exact ⟨0, by omega, by simp, by simp [leftK, wholeW, Int.mul_comm]⟩
  | succ k ih =>
    obtain ⟨S, h0, h1, h2⟩ := ih (by omega)
    have hr := h.rem k
    refine ⟨S + remAt coins ws k, by omega, ?_, ?_⟩
    · have : ((k + 1 : Nat) : Int) * (wholeW ws - 1) = k * (wholeW ws - 1) + (wholeW ws - 1) := by
        rw [show ((k + 1 : Nat) : Int) = (k : Int) + 1 by omega, Int.add_mul, Int.one_mul]
      omega
    · have hd : sumL ((divW ws).drop k) = wAt ws k + sumL ((divW ws).drop (k + 1)) := by
        have hl : k < (divW ws).length := by rw [divW_length]; omega
        rw [List.drop_eq_getElem_cons hl]
        simp [sumL, wAt, hl]
      have he := Int.emod_add_mul_ediv (coins * wAt ws k) (wholeW ws)
      simp only [leftK]
      rw [Int.mul_sub, h2, hd, Int.mul_add]
      unfold quoAt remAt
      omega
theorem DivOk.left : 0 ≤ leftAll coins ws ∧ leftAll coins ws < ws.length := by
  obtain ⟨S, h0, h1, h2⟩ := h.left_at ws.length (Nat.le_refl _)
  rw [List.drop_of_length_le (by rw [divW_length]; exact Nat.le_refl _)] at h2
  simp only [sumL, Int.mul_zero, Int.add_zero] at h2
  have hw := h.whole
  have hl := h.len
  change wholeW ws * leftAll coins ws = S at h2
  constructor
  · refine Int.not_lt.1 fun hn => ?_
    have : wholeW ws * leftAll coins ws < 0 := Int.mul_neg_of_pos_of_neg (by omega) hn
    omega
  · refine Int.not_le.1 fun hn => ?_
    have h3 : wholeW ws * ws.length ≤ wholeW ws * leftAll coins ws := Int.mul_le_mul_of_nonneg_left hn (by omega)
    have h4 : (ws.length : Int) * (wholeW ws - 1) = wholeW ws * ws.length - ws.length := by
      rw [Int.mul_sub, Int.mul_one, Int.mul_comm]
    omega
end
end Go.Proofs.Ytobeffjdfhkjeaa
