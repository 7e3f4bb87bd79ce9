import Derived.Test.YtckgapeednokjaaGreatK6
import Derived.Test.YtckgapeednokjaaGreatTc
import Derived.Test.YtckgapeednokjaaGreatUq
import Derived.Shelf.SlSortCmp.WholeK
import Derived.Ground.SlsfProg
set_option linter.unusedVariables false
set_option linter.unusedSimpArgs false
set_option linter.unusedSectionVars false
namespace Go.Proofs.YtckgapeednokjaaGreat
open Go Go.Proofs Go.RowKit

/-! ### share.Divide: plain words, the sort of what is left -/
/-! ### The division of coins: plain -/
/-- Which of two companies comes first, by what is left of their parts. -/
def bf (r : Nat → Int) (i j : Nat) : Bool := decide (r j < r i) || (decide (r i = r j) && decide (i < j))
theorem bf_irrefl (r : Nat → Int) (i : Nat) : bf r i i = false := by simp [bf]
theorem bf_trans {r : Nat → Int} {i j k : Nat} (h1 : bf r i j = true) (h2 : bf r j k = true) : bf r i k = true := by
  simp only [bf, Bool.or_eq_true, Bool.and_eq_true, decide_eq_true_eq] at *
  omega
theorem bf_asymm {r : Nat → Int} {i j : Nat} (h1 : bf r i j = true) : bf r j i = false := by
  simp only [bf, Bool.or_eq_true, Bool.and_eq_true, decide_eq_true_eq, Bool.or_eq_false_iff, Bool.and_eq_false_iff, decide_eq_false_iff_not] at *
  omega
theorem bf_total {r : Nat → Int} {i j : Nat} (h : i ≠ j) : bf r i j = true ∨ bf r j i = true := by
  simp only [bf, Bool.or_eq_true, Bool.and_eq_true, decide_eq_true_eq] at *
  omega
/-- How many come before one. -/
def rank (r : Nat → Int) (n c : Nat) : Nat := (List.range n).countP fun i => bf r i c
theorem countP_before {p : Nat → Nat → Bool} (hi : ∀ i, p i i = false) (ha : ∀ i j, p i j = true → p j i = false) : ∀ {o : List Nat} {j c : Nat}, o.Pairwise (fun a b => p a b = true) → o[j]? = some c → o.countP (fun i => p i c) = j
  | [], j, c, _, h => by simp at h
  | a :: o, 0, c, hp, h => by
    simp only [List.getElem?_cons_zero, Option.some.injEq] at h
    subst h
    rw [List.countP_cons_of_neg (by simp [hi])]
    rw [List.countP_eq_zero]
    intro x hx
    rw [ha _ _ ((List.pairwise_cons.1 hp).1 x hx)]
    simp
  | a :: o, j + 1, c, hp, h => by
    simp only [List.getElem?_cons_succ] at h
    rw [List.countP_cons_of_pos (p := fun i => p i c) ((List.pairwise_cons.1 hp).1 c (List.mem_of_getElem? h)), countP_before hi ha (List.pairwise_cons.1 hp).2 h]
/-- An order: each company once, whoever comes first ahead. -/
structure Ordered (r : Nat → Int) (n : Nat) (o : List Nat) : Prop where
  perm : o.Perm (List.range n)
  sorted : o.Pairwise (fun a b => bf r a b = true)
theorem Ordered.rank_of {r : Nat → Int} {n : Nat} {o : List Nat} (h : Ordered r n o) {j c : Nat} (hj : o[j]? = some c) : rank r n c = j := by
  unfold rank
  rw [← h.perm.countP_eq]
  exact countP_before (p := bf r) (bf_irrefl r) (fun _ _ => bf_asymm) h.sorted hj
theorem Ordered.length {r : Nat → Int} {n : Nat} {o : List Nat} (h : Ordered r n o) : o.length = n := by
  simpa using h.perm.length_eq
theorem Ordered.get {r : Nat → Int} {n : Nat} {o : List Nat} (h : Ordered r n o) {c : Nat} (hc : c < n) : o[rank r n c]? = some c := by
  have hm : c ∈ o := h.perm.mem_iff.2 (List.mem_range.2 hc)
  obtain ⟨j, hj⟩ := List.getElem?_of_mem hm
  rw [h.rank_of hj]
  exact hj
theorem Ordered.lt {r : Nat → Int} {n : Nat} {o : List Nat} (h : Ordered r n o) {j c : Nat} (hj : o[j]? = some c) : c < n :=
  List.mem_range.1 (h.perm.mem_iff.1 (List.mem_of_getElem? hj))
theorem ordered_ex (r : Nat → Int) (n : Nat) : ∃ o, Ordered r n o := by
  let le : Nat → Nat → Bool := fun a b => decide (a = b) || bf r a b
  refine ⟨(List.range n).mergeSort le, List.mergeSort_perm _ _, ?_⟩
  have hs : ((List.range n).mergeSort le).Pairwise (fun a b => le a b = true) := by
    refine List.pairwise_mergeSort ?_ ?_ _
    · intro a b c h1 h2
      simp only [le, Bool.or_eq_true, decide_eq_true_eq] at *
      rcases h1 with rfl | h1
      · exact h2
      · rcases h2 with rfl | h2
        · exact .inr h1
        · exact .inr (bf_trans h1 h2)
    · intro a b
      simp only [le, Bool.or_eq_true, decide_eq_true_eq]
      by_cases e : a = b
      · exact .inl (.inl e)
      · rcases bf_total (r := r) e with h | h
        · exact .inl (.inr h)
        · exact .inr (.inr h)
  have hn : ((List.range n).mergeSort le).Nodup := (List.mergeSort_perm _ _).nodup_iff.2 List.nodup_range
  refine (hs.and hn).imp ?_
  intro a b ⟨h1, h2⟩
  simp only [le, Bool.or_eq_true, decide_eq_true_eq] at h1
  rcases h1 with h1 | h1
  · exact absurd h1 h2
  · exact h1
theorem rank_lt {r : Nat → Int} {n c : Nat} (hc : c < n) : rank r n c < n := by
  obtain ⟨o, h⟩ := ordered_ex r n
  have := (List.getElem?_eq_some_iff.1 (h.get hc)).1
  rwa [h.length] at this
theorem rank_inj {r : Nat → Int} {n c d : Nat} (hc : c < n) (hd : d < n) (e : rank r n c = rank r n d) : c = d := by
  obtain ⟨o, h⟩ := ordered_ex r n
  have h1 := h.get hc
  have h2 := h.get hd
  rw [e, h2] at h1
  exact (Option.some.inj h1).symm
theorem rank_mono {r : Nat → Int} {n c d : Nat} (hc : c < n) (hd : d < n) : bf r c d = true ↔ rank r n c < rank r n d := by
  obtain ⟨o, h⟩ := ordered_ex r n
  have key : ∀ {x y : Nat}, x < n → y < n → rank r n x < rank r n y → bf r x y = true := fun {x y} hx hy hl => by
    obtain ⟨l1, e1⟩ := List.getElem?_eq_some_iff.1 (h.get hx)
    obtain ⟨l2, e2⟩ := List.getElem?_eq_some_iff.1 (h.get hy)
    have := List.pairwise_iff_getElem.1 h.sorted _ _ l1 l2 hl
    rwa [e1, e2] at this
  refine ⟨fun hb => ?_, key hc hd⟩
  rcases Nat.lt_trichotomy (rank r n c) (rank r n d) with hl | he | hg
  · exact hl
  · have := rank_inj hc hd he
    subst this
    rw [bf_irrefl] at hb
    cases hb
  · have := bf_asymm (key hd hc hg)
    rw [this] at hb
    cases hb
theorem rank_ex {r : Nat → Int} {n i : Nat} (hi : i < n) : ∃ e, e < n ∧ rank r n e = i := by
  obtain ⟨o, h⟩ := ordered_ex r n
  have hl : i < o.length := by rw [h.length]; exact hi
  have := List.getElem?_eq_getElem hl
  exact ⟨_, h.lt this, h.rank_of this⟩
/-- What the reference has left, when some have had theirs. -/
def restI (r : Nat → Int) (n i c : Nat) : Int := if rank r n c < i then -1 else r c
/-- The first with the most left is whoever comes next. -/
theorem best_rank {r : Nat → Int} {n i b : Nat} (h0 : ∀ c, c < n → 0 ≤ r c) (hi : i < n) (hb : b < n) (hmax : ∀ c, c < n → restI r n i c ≤ restI r n i b) (hfst : ∀ c, c < b → restI r n i c < restI r n i b) : rank r n b = i := by
  obtain ⟨e, he, hre⟩ := rank_ex (r := r) hi
  have hee : restI r n i e = r e := by simp [restI, hre]
  have h1 := hmax e he
  have h2 := h0 e he
  have hbi : ¬ rank r n b < i := fun h => by
    have : restI r n i b = -1 := by simp [restI, h]
    omega
  have hbb : restI r n i b = r b := by simp [restI, hbi]
  by_cases hbe : b = e
  · rw [hbe]; exact hre
  · rcases bf_total (r := r) hbe with h | h
    · have := (rank_mono hb he).1 h
      omega
    · exfalso
      simp only [bf, Bool.or_eq_true, Bool.and_eq_true, decide_eq_true_eq] at h
      rcases h with h | ⟨h3, h4⟩
      · omega
      · have := hfst e h4
        omega
theorem restI_step {r : Nat → Int} {n i b c : Nat} (hb : b < n) (hc : c < n) (hr : rank r n b = i) : restI r n (i + 1) c = if c = b then -1 else restI r n i c := by
  unfold restI
  by_cases e : c = b
  · subst e
    rw [if_pos (by omega), if_pos rfl]
  · have : rank r n c ≠ i := fun h => e (rank_inj hc hb (h.trans hr.symm))
    rw [if_neg e]
    by_cases h : rank r n c < i
    · rw [if_pos h, if_pos (by omega)]
    · rw [if_neg h, if_neg (by omega)]

/-! The weights that count, the whole, the parts, what is left of them. -/
def divW (ws : List Int) : List Int := if sumL ws = 0 then ws.map (fun _ => 1) else ws
theorem divW_length (ws : List Int) : (divW ws).length = ws.length := by unfold divW; split <;> simp
def wholeW (ws : List Int) : Int := sumL (divW ws)
def wAt (ws : List Int) (c : Nat) : Int := (divW ws)[c]?.getD 0
def quoAt (coins : Int) (ws : List Int) (c : Nat) : Int := coins * wAt ws c / wholeW ws
def remAt (coins : Int) (ws : List Int) (c : Nat) : Int := coins * wAt ws c % wholeW ws
/-- What is left when the first parts were given. -/
def leftK (coins : Int) (ws : List Int) : Nat → Int
  | 0 => coins
  | k + 1 => leftK coins ws k - quoAt coins ws k
def leftAll (coins : Int) (ws : List Int) : Int := leftK coins ws ws.length
def divAt (coins : Int) (ws : List Int) (i c : Nat) : Int := quoAt coins ws c + if rank (remAt coins ws) ws.length c < i then 1 else 0
def divL (coins : Int) (ws : List Int) : List Int := (List.range ws.length).map (divAt coins ws (leftAll coins ws).toNat)
def divFault (coins : Int) (ws : List Int) : Int :=
  if 5 < ws.length then 3 else if ws.length = 0 ∨ ∃ x ∈ ws, ¬ (0 ≤ x ∧ x ≤ 1000000) then 1 else if ¬ (0 ≤ coins ∧ coins ≤ 10000000) then 2 else 0

/-- The good input. -/
structure DivOk (coins : Int) (ws : List Int) : Prop where
  len : 1 ≤ ws.length ∧ ws.length ≤ 5
  ws : ∀ x ∈ ws, 0 ≤ x ∧ x ≤ 1000000
  coins : 0 ≤ coins ∧ coins ≤ 10000000

section
variable {coins : Int} {ws : List Int} (h : DivOk coins ws)
include h
theorem DivOk.w : ∀ x ∈ divW ws, 0 ≤ x ∧ x ≤ 1000000 := by
  intro x hx
  unfold divW at hx
  split at hx
  · obtain ⟨y, _, rfl⟩ := List.mem_map.1 hx
    omega
  · exact h.ws x hx
theorem DivOk.wat (c : Nat) : 0 ≤ wAt ws c ∧ wAt ws c ≤ 1000000 := by
  unfold wAt
  cases e : (divW ws)[c]? with
  | none => simp
  | some x => exact h.w x (List.mem_of_getElem? e)
theorem DivOk.whole : 1 ≤ wholeW ws ∧ wholeW ws ≤ 5000000 := by
  have hb := sumL_bound (M := 1000000) (by omega) h.w
  rw [divW_length] at hb
  have hl := h.len
  refine ⟨?_, by unfold wholeW; omega⟩
  unfold wholeW
  have h0 := (sumL_bound (M := 1000000) (by omega) h.ws).1
  unfold divW at hb ⊢
  split
  · rename_i e
    have : ∀ l : List Int, sumL (l.map (fun _ => 1)) = l.length := by
      intro l
      induction l with
      | nil => rfl
      | cons a l ih => simp [sumL, ih]; omega
    rw [this]
    omega
  · omega
theorem DivOk.prod (c : Nat) : 0 ≤ coins * wAt ws c ∧ coins * wAt ws c ≤ 10000000000000 := by
  have h1 := h.wat c
  have h2 := h.coins
  refine ⟨Int.mul_nonneg h2.1 h1.1, ?_⟩
  calc coins * wAt ws c ≤ 10000000 * 1000000 := Int.mul_le_mul h2.2 h1.2 h1.1 (by omega)
    _ = _ := by decide
theorem DivOk.rem (c : Nat) : 0 ≤ remAt coins ws c ∧ remAt coins ws c < wholeW ws :=
  ⟨Int.emod_nonneg _ (by have := h.whole; omega), Int.emod_lt_of_pos _ (by have := h.whole; omega)⟩
theorem DivOk.quo (c : Nat) : 0 ≤ quoAt coins ws c ∧ quoAt coins ws c ≤ 10000000000000 := by
  have h1 := h.prod c
  have h2 := h.whole
  refine ⟨Int.ediv_nonneg h1.1 (by omega), Int.le_trans (Int.ediv_le_self _ h1.1) h1.2⟩
/-- What is left, times the whole, is what is left of the parts given so far and the parts still to come. -/
theorem DivOk.left_at (k : Nat) (hk : k ≤ ws.length) : ∃ S, 0 ≤ S ∧ S ≤ k * (wholeW ws - 1) ∧ wholeW ws * leftK coins ws k = S + coins * sumL ((divW ws).drop k) := by
  induction k with
  | zero => exact ⟨0, by omega, by simp, by simp [leftK, wholeW, Int.mul_comm]⟩
  | succ k ih =>
    obtain ⟨S, h0, h1, h2⟩ := ih (by omega)
    have hr := h.rem k
    refine ⟨S + remAt coins ws k, by omega, ?_, ?_⟩
    · have : ((k + 1 : Nat) : Int) * (wholeW ws - 1) = k * (wholeW ws - 1) + (wholeW ws - 1) := by
        rw [show ((k + 1 : Nat) : Int) = (k : Int) + 1 by omega, Int.add_mul, Int.one_mul]
      omega
    · have hd : sumL ((divW ws).drop k) = wAt ws k + sumL ((divW ws).drop (k + 1)) := by
        have hl : k < (divW ws).length := by rw [divW_length]; omega
        rw [List.drop_eq_getElem_cons hl]
        simp [sumL, wAt, hl]
      have he := Int.emod_add_mul_ediv (coins * wAt ws k) (wholeW ws)
      simp only [leftK]
      rw [Int.mul_sub, h2, hd, Int.mul_add]
      unfold quoAt remAt
      omega
theorem DivOk.left : 0 ≤ leftAll coins ws ∧ leftAll coins ws < ws.length := by
  obtain ⟨S, h0, h1, h2⟩ := h.left_at ws.length (Nat.le_refl _)
  rw [List.drop_of_length_le (by rw [divW_length]; exact Nat.le_refl _)] at h2
  simp only [sumL, Int.mul_zero, Int.add_zero] at h2
  have hw := h.whole
  have hl := h.len
  change wholeW ws * leftAll coins ws = S at h2
  constructor
  · refine Int.not_lt.1 fun hn => ?_
    have : wholeW ws * leftAll coins ws < 0 := Int.mul_neg_of_pos_of_neg (by omega) hn
    omega
  · refine Int.not_le.1 fun hn => ?_
    have h3 : wholeW ws * ws.length ≤ wholeW ws * leftAll coins ws := Int.mul_le_mul_of_nonneg_left hn (by omega)
    have h4 : (ws.length : Int) * (wholeW ws - 1) = wholeW ws * ws.length - ws.length := by
      rw [Int.mul_sub, Int.mul_one, Int.mul_comm]
    omega
end

theorem all_inB (ws : List Int) (M : Int) : (ws.all fun x => inB x 0 M) = !decide (∃ x ∈ ws, ¬ (0 ≤ x ∧ x ≤ M)) := by
  rw [Bool.eq_iff_iff]
  simp only [List.all_eq_true, inB_iff, Bool.not_eq_true', decide_eq_false_iff_not]
  constructor
  · rintro h ⟨x, hx, hn⟩
    exact hn (h x hx)
  · intro h x hx
    exact Classical.byContradiction fun hn => h ⟨x, hx, hn⟩

theorem divOk_of {coins : Int} {ws : List Int} (h : divFault coins ws = 0) : DivOk coins ws := by
  unfold divFault at h
  split at h
  · omega
  · split at h
    · omega
    · split at h
      · omega
      · rename_i h1 h2 h3
        simp only [not_or] at h2
        refine ⟨by omega, fun x hx => Classical.byContradiction fun hn => h2.2 ⟨x, hx, hn⟩, Classical.not_not.1 h3⟩

/-! ### Rows by a function -/
def rowF (n : Nat) (f : Nat → Int) : List Value := (List.range n).map fun j => .int .i64 (f j)
theorem rowF_length (n : Nat) (f : Nat → Int) : (rowF n f).length = n := by simp [rowF]
theorem rowF_get {n j : Nat} {f : Nat → Int} (h : j < n) : (rowF n f)[j]? = some (.int .i64 (f j)) := by simp [rowF, h]
theorem rowF_set {n : Nat} {f : Nat → Int} (j : Nat) (x : Int) : (rowF n f).set j (.int .i64 x) = rowF n (fun c => if c = j then x else f c) := by
  apply List.ext_getElem?
  intro i
  rw [List.getElem?_set, rowF_length]
  by_cases e : j = i
  · subst e
    by_cases h : j < n
    · rw [if_pos rfl, if_pos h, rowF_get h, if_pos rfl]
    · rw [if_pos rfl, if_neg h, List.getElem?_eq_none (by rw [rowF_length]; omega)]
  · rw [if_neg e]
    by_cases h : i < n
    · rw [rowF_get h, rowF_get h, if_neg (fun h => e h.symm)]
    · rw [List.getElem?_eq_none (by rw [rowF_length]; omega), List.getElem?_eq_none (by rw [rowF_length]; omega)]
theorem rowF_succ (n : Nat) (f : Nat → Int) : rowF (n + 1) f = rowF n f ++ [.int .i64 (f n)] := by simp [rowF, List.range_succ]
theorem rowF_congr {n : Nat} {f g : Nat → Int} (h : ∀ c, c < n → f c = g c) : rowF n f = rowF n g := by
  unfold rowF
  refine List.map_congr_left fun c hc => ?_
  rw [h c (List.mem_range.1 hc)]
theorem rowF_ints (l : List Int) : l.map (Value.int .i64) = rowF l.length (fun j => l[j]?.getD 0) := by
  apply List.ext_getElem?
  intro i
  by_cases h : i < l.length
  · rw [rowF_get h, List.getElem?_map, List.getElem?_eq_getElem h]
    rfl
  · rw [List.getElem?_eq_none (by simpa using Nat.not_lt.1 h), List.getElem?_eq_none (by rw [rowF_length]; omega)]
theorem rowF_map (n : Nat) (f : Nat → Int) : rowF n f = ((List.range n).map f).map (Value.int .i64) := by simp [rowF, List.map_map]

theorem divW_get {ws : List Int} {c : Nat} (hc : c < ws.length) : wAt ws c = if sumL ws = 0 then 1 else ws[c]?.getD 0 := by
  unfold wAt divW
  split
  · simp [hc]
  · rfl
theorem rowF_divW (ws : List Int) : (divW ws).map (Value.int .i64) = rowF ws.length (wAt ws) := by
  rw [rowF_ints, divW_length]
  rfl

theorem leftK_sum (coins : Int) (ws : List Int) : ∀ k, sumL ((List.range k).map (quoAt coins ws)) + leftK coins ws k = coins
  | 0 => by simp [sumL, leftK]
  | k + 1 => by
    have ih := leftK_sum coins ws k
    rw [List.range_succ, List.map_append, sumL_append]
    simp only [List.map_cons, List.map_nil, sumL, leftK]
    omega
theorem sumOk_quo {coins : Int} {ws : List Int} (h : DivOk coins ws) : SumOk ((List.range ws.length).map (quoAt coins ws)) := by
  intro k hk
  have hb := sumL_bound (l := ((List.range ws.length).map (quoAt coins ws)).take k) (M := 10000000000000) (by omega) fun x hx => by
    obtain ⟨c, _, rfl⟩ := List.mem_map.1 (List.mem_of_mem_take hx)
    exact h.quo c
  have hl := h.len
  have : (((List.range ws.length).map (quoAt coins ws)).take k).length ≤ 5 := by simp; omega
  omega
theorem divAt_zero (coins : Int) (ws : List Int) (c : Nat) : divAt coins ws 0 c = quoAt coins ws c := by simp [divAt]
theorem restI_zero (r : Nat → Int) (n c : Nat) : restI r n 0 c = r c := by simp [restI]
theorem divAt_step {coins : Int} {ws : List Int} {i b c : Nat} (hb : b < ws.length) (hc : c < ws.length) (hr : rank (remAt coins ws) ws.length b = i) : divAt coins ws (i + 1) c = if c = b then divAt coins ws i b + 1 else divAt coins ws i c := by
  unfold divAt
  by_cases e : c = b
  · subst e
    rw [if_pos (by omega), if_pos rfl, if_neg (by omega)]
    omega
  · have : rank (remAt coins ws) ws.length c ≠ i := fun h => e (rank_inj hc hb (h.trans hr.symm))
    rw [if_neg e]
    by_cases h : rank (remAt coins ws) ws.length c < i
    · rw [if_pos h, if_pos (by omega)]
    · rw [if_neg h, if_neg (by omega)]



/-! ### What a division is like: plain -/
theorem sumL_map_add (f g : Nat → Int) : ∀ n, sumL ((List.range n).map fun c => f c + g c) = sumL ((List.range n).map f) + sumL ((List.range n).map g)
  | 0 => by simp [sumL]
  | n + 1 => by
    have ih := sumL_map_add f g n
    simp only [List.range_succ, List.map_append, List.map_cons, List.map_nil, sumL_append, sumL] at ih ⊢
    omega
theorem sumL_map_le {f g : Nat → Int} : ∀ n, (∀ c, c < n → f c ≤ g c) → sumL ((List.range n).map f) ≤ sumL ((List.range n).map g)
  | 0, _ => by simp [sumL]
  | n + 1, h => by
    have ih := sumL_map_le n (fun c hc => h c (by omega))
    have := h n (by omega)
    simp only [List.range_succ, List.map_append, List.map_cons, List.map_nil, sumL_append, sumL] at ih ⊢
    omega
theorem sumL_map_mul (k : Int) (f : Nat → Int) : ∀ n, sumL ((List.range n).map fun c => k * f c) = k * sumL ((List.range n).map f)
  | 0 => by simp [sumL]
  | n + 1 => by
    have ih := sumL_map_mul k f n
    simp only [List.range_succ, List.map_append, List.map_cons, List.map_nil, sumL_append, sumL, Int.mul_add] at ih ⊢
    omega
theorem sumL_map_upd {f : Nat → Int} {b : Nat} : ∀ n, b < n → sumL ((List.range n).map fun c => if c = b then f b + 1 else f c) = sumL ((List.range n).map f) + 1
  | 0, h => by omega
  | n + 1, h => by
    simp only [List.range_succ, List.map_append, List.map_cons, List.map_nil, sumL_append, sumL]
    by_cases e : n = b
    · subst e
      have : (List.range n).map (fun c => if c = n then f n + 1 else f c) = (List.range n).map f := List.map_congr_left fun c hc => by
        have := List.mem_range.1 hc
        rw [if_neg (by omega)]
      rw [this, if_pos rfl]
      omega
    · have ih := sumL_map_upd (f := f) (b := b) n (by omega)
      rw [ih, if_neg e]
      omega
theorem count_rank (r : Nat → Int) (n : Nat) : ∀ i, i ≤ n → sumL ((List.range n).map fun c => if rank r n c < i then (1 : Int) else 0) = i
  | 0, _ => by
    have : (fun c => if rank r n c < 0 then (1 : Int) else 0) = fun _ => (0 : Int) * 0 := by funext c; simp
    rw [this, sumL_map_mul]
    simp
  | i + 1, h => by
    obtain ⟨b, hb, hr⟩ := rank_ex (r := r) (n := n) (i := i) (by omega)
    have ih := count_rank r n i (by omega)
    have e : (List.range n).map (fun c => if rank r n c < i + 1 then (1 : Int) else 0) = (List.range n).map (fun c => if c = b then (if rank r n b < i then (1 : Int) else 0) + 1 else if rank r n c < i then (1 : Int) else 0) := List.map_congr_left fun c hc => by
      have hc := List.mem_range.1 hc
      by_cases e : c = b
      · subst e
        rw [if_pos (by omega), if_pos rfl, if_neg (by omega)]
        rfl
      · have : rank r n c ≠ i := fun h => e (rank_inj hc hb (h.trans hr.symm))
        rw [if_neg e]
        by_cases h : rank r n c < i
        · rw [if_pos h, if_pos (by omega)]
        · rw [if_neg h, if_neg (by omega)]
    rw [e, sumL_map_upd (f := fun c => if rank r n c < i then (1 : Int) else 0) n hb, ih]
    omega

section
variable {coins : Int} {ws : List Int} (h : DivOk coins ws)
include h
theorem div_sum : sumL (divL coins ws) = coins := by
  have hl := h.left
  have h1 := leftK_sum coins ws ws.length
  have h2 := count_rank (remAt coins ws) ws.length (leftAll coins ws).toNat (by omega)
  unfold divL divAt
  rw [sumL_map_add, h2]
  unfold leftAll at hl ⊢
  omega
theorem div_rem : sumL ((List.range ws.length).map (remAt coins ws)) = wholeW ws * leftAll coins ws := by
  have key : ∀ k, k ≤ ws.length → coins * sumL ((divW ws).take k) = wholeW ws * sumL ((List.range k).map (quoAt coins ws)) + sumL ((List.range k).map (remAt coins ws)) := by
    intro k
    induction k with
    | zero => intro _; simp [sumL]
    | succ k ih =>
      intro hk
      have ih := ih (by omega)
      have hw : (divW ws)[k]? = some (wAt ws k) := by
        unfold wAt
        rw [List.getElem?_eq_getElem (by rw [divW_length]; omega)]
        rfl
      have hd := Int.emod_add_mul_ediv (coins * wAt ws k) (wholeW ws)
      rw [sumL_take hw, List.range_succ]
      simp only [List.map_append, List.map_cons, List.map_nil, sumL_append, sumL, Int.mul_add, Int.mul_zero, Int.add_zero]
      unfold quoAt remAt at *
      omega
  have h1 := key ws.length (Nat.le_refl _)
  rw [List.take_of_length_le (by rw [divW_length]; exact Nat.le_refl _)] at h1
  have h2 := leftK_sum coins ws ws.length
  have h3 : coins * wholeW ws = wholeW ws * sumL ((List.range ws.length).map (quoAt coins ws)) + wholeW ws * leftAll coins ws := by
    rw [← Int.mul_add]
    unfold leftAll
    rw [h2, Int.mul_comm]
  unfold wholeW at *
  omega
/-- A weight of nothing gets nothing. -/
theorem div_zero {c : Nat} (hc : c < ws.length) (hw : wAt ws c = 0) : divAt coins ws (leftAll coins ws).toNat c = 0 := by
  have hq : quoAt coins ws c = 0 := by simp [quoAt, hw]
  have hr : remAt coins ws c = 0 := by simp [remAt, hw]
  unfold divAt
  rw [hq]
  by_cases hk : rank (remAt coins ws) ws.length c < (leftAll coins ws).toNat
  · exfalso
    have hl := h.left
    have h1 := div_rem h
    have h2 := count_rank (remAt coins ws) ws.length (rank (remAt coins ws) ws.length c) (by have := rank_lt (r := remAt coins ws) hc; omega)
    have h3 : sumL ((List.range ws.length).map (remAt coins ws)) ≤ sumL ((List.range ws.length).map fun d => wholeW ws * if rank (remAt coins ws) ws.length d < rank (remAt coins ws) ws.length c then (1 : Int) else 0) := by
      refine sumL_map_le _ fun d hd => ?_
      have hrd := h.rem d
      by_cases e : rank (remAt coins ws) ws.length d < rank (remAt coins ws) ws.length c
      · rw [if_pos e]; omega
      · rw [if_neg e]
        have : ¬ bf (remAt coins ws) d c = true := fun hb => e ((rank_mono hd hc).1 hb)
        simp only [bf, Bool.or_eq_true, Bool.and_eq_true, decide_eq_true_eq, not_or] at this
        omega
    rw [sumL_map_mul, h2, h1] at h3
    have hwh := h.whole
    have h4 := Int.le_of_mul_le_mul_left h3 (by omega)
    omega
  · rw [if_neg hk]; rfl
end

theorem all1_sints (B : Nat) (fn : Fn) (fs cs : Array Value) (b : Bool) (x : Int) (w : World) (hB : w.cell? ⟨B, 0, none⟩ = some (.func fn fs cs))
    (hf : ∀ (w' : World), Below w.heap.size w w' → CallsVal Tryz.prog (.func fn fs cs) #[.int .i64 x] w' (Gives w' (.bool b))) :
    CallsVal Tryz.prog (.func (.func 77) #[] #[.pointer (some ⟨B, 0, none⟩)]) #[.int .i64 x] w (Gives w (.bool (!b))) := by
  refine ⟨77, #[.int .i64 x, .pointer (some ⟨B, 0, none⟩)], by kernel_rfl, ?_⟩
  have hlt := World.block_lt_of_cell? _ _ hB
  have Hf := Lib.hid hf
  clear hf
  go_enter Tryz.func77, Tryz.ntmps77
  go_wp2_with (refine wpList_callv (.tmp 4) [.tmp 5] #[3] rfl rfl (.func fn fs cs) rfl [.int .i64 x] rfl (.bool b) (Hf.out _ (Below.refl _ _)) ?_; intro w2 hb2)
  go_ret
  exact ⟨rfl, hb2⟩

theorem all_sints (fn : Fn) (fs cs : Array Value) (p : Int → Bool) (v : Value) (l : List Int) (w : World) (hv : NumsAt .i64 w v l)
    (hf : ∀ (k : Nat) (x : Int)  (w' : World), l[k]? = some x →  Below w.heap.size w w' → CallsVal Tryz.prog (.func fn fs cs) #[.int .i64 x] w' (Gives w' (.bool (p x)))) :
    Calls Tryz.prog 35 #[v, .func fn fs cs] w (Gives w (.bool (l.all p))) := by
  have hb0 : Below w.heap.size w (w.alloc (.cells #[.func fn fs cs] 103)) := (Below.refl _ _).alloc (Nat.le_refl _) _
  have Hc := Lib.hid (containsFunc_ints (.func 77) #[] #[.pointer (some ⟨w.heap.size, 0, none⟩)] (fun x => !p x) v l (w.alloc (.cells #[.func fn fs cs] 103)) (hv.below hb0)
    (fun k x  w' hx  hb => all1_sints w.heap.size fn fs cs (p x) x w' (cell_below hb (by simp)) (fun w2 hb2 => hf k x  w2 hx  (hb0.trans ((hb.mono hb0.size).trans (hb2.mono (Nat.le_trans hb0.size hb.size)))))))
  clear hf
  go_enter Tryz.func35, Tryz.ntmps35
  go_wp2_with (go_at_call 76; refine Hc.out.mono ?_; rintro e w' ⟨rfl, hb⟩)
  go_ret
  exact gives_bool (any_not p l) (hb0.trans (hb.mono hb0.size))
theorem withinS_same (n lo hi : Int) (w : World) : Calls Tryz.prog 37 #[.int .i64 n, .int .i64 lo, .int .i64 hi] w (Same w (.bool (inB n lo hi))) := by
  by_cases h1 : lo ≤ n
  · by_cases h2 : n ≤ hi
    · have e : inB n lo hi = true := by simp [inB, h1, h2]
      rw [e]; clear e
      go_enter Tryz.func37, Tryz.ntmps37
      go_wp2
      go_ret
      exact ⟨rfl, rfl⟩
    · have e : inB n lo hi = false := by simp [inB, h2]
      rw [e]; clear e
      go_enter Tryz.func37, Tryz.ntmps37
      go_wp2
      go_ret
      exact ⟨rfl, rfl⟩
  · have e : inB n lo hi = false := by simp [inB, h1]
    rw [e]; clear e
    go_enter Tryz.func37, Tryz.ntmps37
    go_wp2
    go_ret
    exact ⟨rfl, rfl⟩

theorem divide1_val (w : World) (x : Int) : CallsVal Tryz.prog (.func (.func 36) #[] #[]) #[.int .i64 x] w (Gives w (.bool (inB x 0 1000000))) := by
  refine ⟨36, #[.int .i64 x], by kernel_rfl, ?_⟩
  obtain ⟨bb, hbb⟩ : ∃ bb, inB x 0 1000000 = bb := ⟨_, rfl⟩
  rw [hbb]
  go_enter Tryz.func36, Tryz.ntmps36
  go_wp2_with (go_at_call 37; refine (Same.to hbb (withinS_same _ _ _ _)).mono ?_; rintro e w1 ⟨rfl, rfl⟩)
  go_ret
  exact ⟨rfl, Below.refl _ _⟩
theorem allD_any (v : Value) (l : List Int) (w : World) (hv : NumsAt .i64 w v l) : Calls Tryz.prog 35 #[v, .func (.func 36) #[] #[]] w (Gives w (.bool (l.all fun x => inB x 0 1000000))) :=
  all_sints _ _ _ _ v l w hv fun k x w' _ _ => divide1_val w' x

section
open Go.Shelf
def Tryz.sortRest_ren : Go.Shelf.Ren := ⟨fun | 6 => 40 | 15 => 79 | 14 => 78 | 28 => 133 | 29 => 134 | 20 => 125 | 21 => 126 | 22 => 127 | 23 => 128 | 24 => 129 | 25 => 130 | 26 => 131 | 27 => 132 | 46 => 186 | 47 => 187 | 48 => 188 | 49 => 189 | 50 => 190 | 57 => 220 | n => n, fun | 22 => 106 | 24 => 108 | 25 => 110 | 3 => 3 | 39 => 32 | 0 => 0 | 53 => 241 | 55 => 23 | 4 => 4 | 46 => 234 | 45 => 233 | 50 => 238 | 5 => 5 | 9 => 9 | 66 => 268 | 70 => 272 | 76 => 293 | 77 => 294 | n => n, fun | n => n⟩
theorem Tryz.sortRest : Go.Proofs.SlLaysF0.n6 Tryz.prog Tryz.sortRest_ren := {
  mixed := by kernel_rfl,
  f6 := ⟨Tryz.f40.name, by decide, Tryz.func40.trans (congrArg some (by kernel_rfl))⟩,
  f14 := ⟨Tryz.f78.name, by decide, Tryz.func78.trans (congrArg some (by kernel_rfl))⟩,
  f15 := Tryz.func79.trans (congrArg some (by kernel_rfl)),
  f20 := ⟨Tryz.f125.name, by decide, Tryz.func125.trans (congrArg some (by kernel_rfl))⟩,
  f21 := ⟨Tryz.f126.name, by decide, Tryz.func126.trans (congrArg some (by kernel_rfl))⟩,
  f22 := ⟨Tryz.f127.name, by decide, Tryz.func127.trans (congrArg some (by kernel_rfl))⟩,
  f23 := ⟨Tryz.f128.name, by decide, Tryz.func128.trans (congrArg some (by kernel_rfl))⟩,
  f24 := ⟨Tryz.f129.name, by decide, Tryz.func129.trans (congrArg some (by kernel_rfl))⟩,
  f25 := ⟨Tryz.f130.name, by decide, Tryz.func130.trans (congrArg some (by kernel_rfl))⟩,
  f26 := ⟨Tryz.f131.name, by decide, Tryz.func131.trans (congrArg some (by kernel_rfl))⟩,
  f27 := ⟨Tryz.f132.name, by decide, Tryz.func132.trans (congrArg some (by kernel_rfl))⟩,
  f28 := Tryz.func133.trans (congrArg some (by kernel_rfl)),
  f29 := Tryz.func134.trans (congrArg some (by kernel_rfl)),
  f46 := ⟨Tryz.f186.name, by decide, Tryz.func186.trans (congrArg some (by kernel_rfl))⟩,
  f47 := Tryz.func187.trans (congrArg some (by kernel_rfl)),
  f48 := Tryz.func188.trans (congrArg some (by kernel_rfl)),
  f49 := ⟨Tryz.f189.name, by decide, Tryz.func189.trans (congrArg some (by kernel_rfl))⟩,
  f50 := ⟨Tryz.f190.name, by decide, Tryz.func190.trans (congrArg some (by kernel_rfl))⟩,
  f57 := ⟨Tryz.f220.name, by decide, Tryz.func220.trans (congrArg some (by kernel_rfl))⟩,
  t0 := Tryz.underlying0,
  a0 := Tryz.isAgg0,
  z0 := Tryz.sizeOf0,
  v0 := Tryz.zeroValue0,
  t3 := Tryz.underlying3,
  a3 := Tryz.isAgg3,
  z3 := Tryz.sizeOf3,
  v3 := Tryz.zeroValue3,
  t4 := Tryz.underlying4,
  a4 := Tryz.isAgg4,
  z4 := Tryz.sizeOf4,
  v4 := Tryz.zeroValue4,
  t5 := Tryz.underlying5,
  a5 := Tryz.isAgg5,
  z5 := Tryz.sizeOf5,
  v5 := Tryz.zeroValue5,
  t9 := Tryz.underlying9,
  a9 := Tryz.isAgg9,
  z9 := Tryz.sizeOf9,
  v9 := Tryz.zeroValue9,
  t22 := Tryz.underlying106,
  a22 := Tryz.isAgg106,
  z22 := Tryz.sizeOf106,
  v22 := Tryz.zeroValue106,
  t25 := Tryz.underlying110,
  a25 := Tryz.isAgg110,
  z25 := Tryz.sizeOf110,
  v25 := Tryz.zeroValue110,
  t39 := Tryz.underlying32,
  a39 := Tryz.isAgg32,
  z39 := Tryz.sizeOf32,
  v39 := Tryz.zeroValue32,
  t45 := Tryz.underlying233,
  a45 := Tryz.isAgg233,
  z45 := Tryz.sizeOf233,
  v45 := Tryz.zeroValue233,
  t46 := Tryz.underlying234,
  a46 := Tryz.isAgg234,
  z46 := Tryz.sizeOf234,
  v46 := Tryz.zeroValue234,
  t50 := Tryz.underlying238,
  a50 := Tryz.isAgg238,
  z50 := Tryz.sizeOf238,
  v50 := Tryz.zeroValue238,
  t53 := Tryz.underlying241,
  a53 := Tryz.isAgg241,
  z53 := Tryz.sizeOf241,
  v53 := Tryz.zeroValue241,
  t55 := Tryz.underlying23,
  a55 := Tryz.isAgg23,
  z55 := Tryz.sizeOf23,
  v55 := Tryz.zeroValue23,
  t66 := Tryz.underlying268,
  a66 := Tryz.isAgg268,
  z66 := Tryz.sizeOf268,
  v66 := Tryz.zeroValue268,
  t70 := Tryz.underlying272,
  a70 := Tryz.isAgg272,
  z70 := Tryz.sizeOf272,
  v70 := Tryz.zeroValue272,
  t76 := Tryz.underlying293,
  a76 := Tryz.isAgg293,
  z76 := Tryz.sizeOf293,
  v76 := Tryz.zeroValue293,
  t77 := Tryz.underlying294,
  a77 := Tryz.isAgg294,
  z77 := Tryz.sizeOf294,
  v77 := Tryz.zeroValue294 }
end
/-- A company and what is left of its part. -/
abbrev Rest := Fin 8 × Fin 10000000
def encRest (x : Rest) : List Value := [.int .i64 (x.1.val : Int), .int .i64 (x.2.val : Int)]
def cmpRest (x y : Rest) : Int := orI ((y.2.val : Int) - x.2.val) ((x.1.val : Int) - y.1.val)

theorem cmpRest_calls (x y : Rest) (W : World) : Calls Tryz.prog 41 #[.agg (encRest x).toArray, .agg (encRest y).toArray] W fun e w' => e = .returned (.int .i64 (cmpRest x y)) ∧ ∃ q os', w' = Go.Sort.grow (W.drewN q) os' := by
  obtain ⟨a, b⟩ := x
  obtain ⟨c, d⟩ := y
  have ha := a.isLt
  have hb := b.isLt
  have hc := c.isLt
  have hd := d.isLt
  simp only [encRest, cmpRest]
  obtain ⟨a', ha'⟩ : ∃ z, a.val = z := ⟨_, rfl⟩
  obtain ⟨b', hb'⟩ : ∃ z, b.val = z := ⟨_, rfl⟩
  obtain ⟨c', hc'⟩ : ∃ z, c.val = z := ⟨_, rfl⟩
  obtain ⟨d', hd'⟩ : ∃ z, d.val = z := ⟨_, rfl⟩
  rw [ha'] at ha ⊢
  rw [hb'] at hb ⊢
  rw [hc'] at hc ⊢
  rw [hd'] at hd ⊢
  clear ha' hb' hc' hd' a b c d
  have hor := fun (v : Value) (W : World) (hv : NumsAt .i64 W v [(d' : Int) - b', (a' : Int) - c']) => Or_same ((d' : Int) - b') ((a' : Int) - c') v W hv
  obtain ⟨r, hr⟩ : ∃ r, orI ((d' : Int) - b') ((a' : Int) - c') = r := ⟨_, rfl⟩
  rw [hr] at hor ⊢
  have Hor := Lib.hid hor
  clear hr hor
  go_enter Tryz.func41, Tryz.ntmps41
  go_wp2_with fail
  refine (Hor.out _ _ (nums_pair (by simp [go_sem]) (by simp [go_sem]))).mono ?_
  rintro e w1 ⟨rfl, rfl⟩
  go_wp2
  go_ret
  exact ⟨rfl, 0, _, by rw [Go.Sort.alloc_eq_grow, Go.Sort.alloc_eq_grow, Go.Sort.alloc_eq_grow, Go.Sort.grow_grow, Go.Sort.grow_grow]; rfl⟩

theorem cmpRest_lays (blk off size : Nat) (w : World) : CmpLays Tryz.prog 41 #[] encRest 2 cmpRest blk off size w :=
  fun _ _ _ _ x y => cmpRest_calls x y _

theorem ltRest (x y : Rest) : ltOf cmpRest x y = (decide (y.2.val < x.2.val) || (decide (x.2.val = y.2.val) && decide (x.1.val < y.1.val))) := by
  unfold ltOf cmpRest orI
  rw [Bool.eq_iff_iff]
  simp only [decide_eq_true_eq, Bool.or_eq_true, Bool.and_eq_true]
  split <;> omega
theorem swoRest : Go.Sort.SWO (ltOf cmpRest) where
  irrefl x := by rw [ltRest]; simp
  trans x y z h1 h2 := by
    rw [ltRest] at *
    simp only [decide_eq_true_eq, Bool.or_eq_true, Bool.and_eq_true] at *
    omega
  ntrans x y z h1 h2 := by
    rw [ltRest] at *
    simp only [Bool.or_eq_false_iff, Bool.and_eq_false_iff, decide_eq_false_iff_not] at *
    omega

/-- The row of what is left: each company and its rest. -/
def rowR (n : Nat) (r : Nat → Int) : List Value := (List.range (n * 2)).map fun j => if j % 2 = 0 then .int .i64 ((j / 2 : Nat) : Int) else .int .i64 (r (j / 2))
theorem rowR_length (n : Nat) (r : Nat → Int) : (rowR n r).length = n * 2 := by simp [rowR]
theorem rowR_succ (n : Nat) (r : Nat → Int) : rowR (n + 1) r = rowR n r ++ [.int .i64 (n : Int), .int .i64 (r n)] := by
  unfold rowR
  rw [show (n + 1) * 2 = n * 2 + 1 + 1 by omega, List.range_succ, List.range_succ]
  simp only [List.map_append, List.map_cons, List.map_nil, List.append_assoc, List.cons_append, List.nil_append]
  rw [if_pos (by omega), if_neg (by omega), show n * 2 / 2 = n by omega, show (n * 2 + 1) / 2 = n by omega]
theorem rowR_get {n j : Nat} {r : Nat → Int} (h : j < n * 2) : (rowR n r)[j]? = some (if j % 2 = 0 then .int .i64 ((j / 2 : Nat) : Int) else .int .i64 (r (j / 2))) := by simp [rowR, h]

def restOf (r : Nat → Int) (c : Nat) : Rest := (⟨c % 8, by omega⟩, ⟨(r c).toNat % 10000000, by omega⟩)
def restArr (n : Nat) (r : Nat → Int) : Array Rest := ((List.range n).map (restOf r)).toArray
theorem restArr_size (n : Nat) (r : Nat → Int) : (restArr n r).size = n := by simp [restArr]
theorem restArr_get {n c : Nat} {r : Nat → Int} (h : c < n) : (restArr n r)[c]! = restOf r c := by
  rw [getElem!_pos _ c (by rw [restArr_size]; exact h)]
  simp [restArr]

theorem sort_grown (w : World) (g n : Nat) (d : Array Rest) (os : Array Obj) : w.grownBy (sortWorldK encRest 2 w g 0 n d os) (some g) := by
  refine ⟨rfl, rfl, rfl, ?_, fun k hk hne => ?_⟩
  · simp [sortWorldK, Go.Sort.grow, Go.Sort.putRowK, Go.Sort.putRow, Go.Sort.mapBlock, Go.Sort.ahead]
  · have hne' : g ≠ k := fun e => hne (by rw [e])
    show ((w.heap.modify g _) ++ os)[k]? = _
    rw [Array.getElem?_append_left (by rw [Array.size_modify]; exact hk), Array.getElem?_modify, if_neg hne']

set_option maxHeartbeats 1000000 in
theorem sortRest_any (r : Nat → Int) (n g c base : Nat) (w : World) (hn : n ≤ 5) (hr : ∀ c, c < n → 0 ≤ r c ∧ r c < 10000000) (ho : w.ownsRow base 108 2 (.slice (some ⟨g, 0, none⟩) n c) n (rowR n r)) :
    Calls Tryz.prog 40 #[.slice (some ⟨g, 0, none⟩) n c, .func (.func 41) #[] #[]] w fun e w' => e = .returned (.tuple #[]) ∧ ∃ o, Ordered r n o ∧ w.grownBy w' (some g) ∧ ∀ (i x : Nat), o[i]? = some x → w'.cell? ⟨g, i * 2, none⟩ = some (.int .i64 (x : Int)) := by
  have eg : ∀ args w, (callFunc 41 args).run Tryz.prog w = .ok (.enter 41 args) w := enters_of Tryz.func41 (by kernel_rfl) rfl
  have hg : g < w.heap.size := (ho.lt g rfl).2
  have hH : Go.Sort.HoldsK encRest 2 w g 0 (restArr n r) := by
    intro j hj
    rw [Go.Sort.size_flatK, restArr_size] at hj
    have h1 := ho.cellAt j (by omega)
    rw [rowR_get hj] at h1
    refine ⟨?_, by simpa using ho.frozenAt j⟩
    rw [Nat.zero_add, h1, Go.Sort.get_flatK _ _ _ _ (by rw [restArr_size]; exact hj), restArr_get (by omega)]
    have hrj := hr (j / 2) (by omega)
    rcases Nat.mod_two_eq_zero_or_one j with e | e
    · simp only [e, if_true, encRest, restOf, id]
      rw [Nat.mod_eq_of_lt (by omega)]
      rfl
    · simp only [e, encRest, restOf, id]
      rw [Nat.mod_eq_of_lt (a := (r (j / 2)).toNat) (by omega), if_neg (by omega), Int.toNat_of_nonneg hrj.1]
      rfl
  have hcon := AnyQ.slices_SortFunc Tryz.sortRest 2 Tryz.isAgg108 Tryz.sizeOf108 encRest (fun _ => rfl) (fun x v hv => by simp [encRest] at hv; rcases hv with rfl | rfl <;> rfl) cmpRest swoRest 41 #[] g 0 c (restArr n r) w eg (cmpRest_lays g 0 _ w) hH hg (by rw [restArr_size]; omega)
  rw [restArr_size] at hcon
  change Calls Tryz.prog 40 _ _ _ at hcon
  refine hcon.mono ?_
  rintro e w' ⟨rfl, d', m, os, ⟨hs, _, hp⟩, hsort, rfl⟩
  rw [restArr_size] at hs
  have hp' : d'.toList.Perm (restArr n r).toList := by
    rw [Array.extract_eq_self_of_le (by omega), Array.extract_eq_self_of_le (by rw [restArr_size]; omega)] at hp
    exact hp
  have hin : ∀ i, i < n → ∃ x, x < n ∧ d'[i]! = restOf r x := fun i hi => by
    have : d'[i]! ∈ (restArr n r).toList := hp'.mem_iff.1 (by
      rw [getElem!_pos _ i (by omega)]
      exact Array.getElem_mem_toList _)
    simp only [restArr, List.mem_map, List.mem_range] at this
    obtain ⟨x, hx, e⟩ := this
    exact ⟨x, hx, e.symm⟩
  have hval : ∀ x, x < n → (restOf r x).1.val = x := fun x hx => Nat.mod_eq_of_lt (by omega)
  have hval2 : ∀ x, x < n → ((restOf r x).2.val : Int) = r x := fun x hx => by
    have := hr x hx
    show (((r x).toNat % 10000000 : Nat) : Int) = _
    rw [Nat.mod_eq_of_lt (by omega)]
    omega
  have hperm : (d'.toList.map fun x => x.1.val).Perm (List.range n) := by
    refine (hp'.map _).trans ?_
    have : (restArr n r).toList.map (fun x => x.1.val) = List.range n := by
      simp only [restArr, List.map_map]
      apply List.ext_getElem (by simp)
      intro i h1 h2
      simp at h2
      simp [hval i h2]
    rw [this]
  refine ⟨rfl, d'.toList.map fun x => x.1.val, ⟨hperm, ?_⟩, sort_grown w g m d' os, fun i x hx => ?_⟩
  · have hnd := hperm.nodup_iff.2 List.nodup_range
    rw [List.pairwise_iff_getElem]
    intro i j hi hj hij
    simp only [List.length_map, Array.length_toList, hs] at hi hj
    obtain ⟨x, hx, ex⟩ := hin i hi
    obtain ⟨y, hy, ey⟩ := hin j hj
    have hlt := hsort i j (by omega) hij hj
    rw [ex, ey, ltRest] at hlt
    have gi : (d'.toList.map fun x => x.1.val)[i]'(by simp; omega) = x := by
      rw [List.getElem_map, Array.getElem_toList, ← getElem!_pos d' i (by omega), ex, hval x hx]
    have gj : (d'.toList.map fun x => x.1.val)[j]'(by simp; omega) = y := by
      rw [List.getElem_map, Array.getElem_toList, ← getElem!_pos d' j (by omega), ey, hval y hy]
    have hxy : x ≠ y := fun e => by
      have := (List.getElem_inj hnd).1 (gi.trans (e.trans gj.symm))
      omega
    rw [gi, gj]
    have hb : bf r y x = false := by
      have e1 := hval x hx
      have e2 := hval y hy
      have e3 := hval2 x hx
      have e4 := hval2 y hy
      simp only [bf, Bool.or_eq_false_iff, Bool.and_eq_false_iff, decide_eq_false_iff_not] at hlt ⊢
      omega
    rcases bf_total (r := r) hxy with h | h
    · exact h
    · rw [h] at hb; cases hb
  · have hl := (List.getElem?_eq_some_iff.1 hx).1
    simp only [List.length_map, Array.length_toList, hs] at hl
    have hw : Go.Sort.HoldsK encRest 2 (sortWorldK encRest 2 w g 0 m d' os) g 0 d' := SWK.holds ⟨m, os, rfl⟩ hg hH (by rw [restArr_size]; exact hs)
    have hc := (hw (i * 2) (by rw [Go.Sort.size_flatK]; omega)).1
    rw [Nat.zero_add, Go.Sort.get_flatK _ _ _ _ (by omega), show i * 2 / 2 = i by omega, show i * 2 % 2 = 0 by omega] at hc
    rw [hc]
    rw [List.getElem?_map, Array.getElem?_toList, Array.getElem?_eq_getElem (by omega)] at hx
    simp only [Option.map_some, Option.some.injEq] at hx
    rw [getElem!_pos d' i (by omega)]
    simp [encRest, hx]

theorem sum_same (v : Value) (l : List Int) (w : World) (hv : NumsAt .i64 w v l) (hok : SumOk l) : Calls Tryz.prog 39 #[v] w (Same w (.int .i64 (sumL l))) := by
  obtain ⟨A, c, rfl, hc, hm, hT⟩ := hv
  unfold maxLen at hm
  go_enter Tryz.func39, Tryz.ntmps39
  go_wp2
  go_loop [2, 7] (fun n j => ∃ k : Nat, k ≤ l.length ∧ j = .int .i64 k ∧ n = .int .i64 (sumL (l.take k))) (fun n j => l.length - (intOf j).toNat)
  case atStart => exact ⟨0, by omega, rfl, rfl⟩
  case round =>
    obtain ⟨k, hk, rfl, rfl⟩ := hrel
    by_cases hlt : k < l.length
    · obtain ⟨b, o, rfl, hT'⟩ := hT (by omega)
      obtain ⟨x, hx0⟩ : ∃ x, l[k]? = some x := ⟨_, List.getElem?_eq_getElem hlt⟩
      have hx := hT' k hlt
      rw [hx0] at hx
      simp only [Option.getD_some] at hx
      have hs := sumL_take hx0
      have h1 := hok (k + 1) (by omega)
      have h0 := hok k (by omega)
      rw [hs] at h1
      have Hs := Lib.hid hs
      clear hs hx0 hT hT'
      go_wp2
      go_round
      case rel => exact ⟨k + 1, by omega, by go_num, by rw [Hs.out]⟩
      case measure => simp [intOf]; omega
    · go_wp2
      go_ret
      exact same_int (by rw [List.take_of_length_le (by omega)])

end Go.Proofs.YtckgapeednokjaaGreat
