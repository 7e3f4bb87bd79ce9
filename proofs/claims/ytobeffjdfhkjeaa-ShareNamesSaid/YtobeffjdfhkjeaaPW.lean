import Derived.Test.YtobeffjdfhkjeaaWi
import Derived.Test.YtobeffjdfhkjeaaY
import Derived.Test.YtobeffjdfhkjeaaPp
set_option linter.unusedVariables false
set_option linter.unusedSimpArgs false
namespace Go.Proofs.Ytobeffjdfhkjeaa
open Go Go.RowKit

/-! ### The least number of samples: plain -/
def withS (s : Strat) (y : List Int) : Strat := { s with seen := plusL s.seen y, lo := max s.lo (sumL (plusL s.seen y)) }

structure More (s : Strat) (many : Nat) (y : List Int) : Prop where
  len : y.length = s.seen.length
  pos : ∀ z ∈ y, 0 ≤ z
  sum : sumL y = many

theorem with_strat {n : Int} {s : Strat} {many : Nat} {y : List Int} (hs : stratB n s = true) (h : More s many y) (hm : (many : Int) ≤ s.hi - sumL s.seen) : stratB n (withS s y) = true := by
  obtain ⟨h1, h2, h3, h4, h5, h6, h7⟩ := stratB_iff.1 hs
  have hsum := plusL_sum (a := s.seen) (b := y) h.len
  have hms := h.sum
  refine stratB_iff.2 ⟨h1, ?_, ?_, h4, ?_, fun j x hx => ?_, ?_⟩
  · simp only [withS]; omega
  · simp only [withS]; omega
  · simp only [withS]; rw [plusL_len h.len]; exact h5
  · simp only [withS] at hx
    have e := plusL_at (a := s.seen) (b := y) (c := j) h.len
    rw [hx, Option.getD_some] at e
    have h8 := seen_at hs j
    have h9 := elem_le_sum h.pos j
    have h10 := elem_le_sum (l := s.seen) (fun x hx => ((strat_nums hs).2.2.2 x hx).1) j
    omega
  · simp only [withS]; omega

/-- The width of a company of which x are seen, with so many more. -/
def wM (s : Strat) (many x : Int) : Int := widthW ((s.seen.length : Int) == 1) s.coins (max s.lo (s.hi - (s.hi - sumL s.seen) + many)) s.hi (s.hi - sumL s.seen - many) x
theorem okW_iff {s : Strat} {coins more x : Int} : okW s coins more x = true ↔ wM s more x ≤ coins := by simp [okW, wM]

theorem with_width {s : Strat} {many : Nat} {y : List Int} (h : More s many y) (c : Nat) :
    (rangeAt (withS s y) c).2 - (rangeAt (withS s y) c).1 = wM s many (s.seen[c]?.getD 0 + y[c]?.getD 0) := by
  have hsum := plusL_sum (a := s.seen) (b := y) h.len
  have hms := h.sum
  simp only [rangeAt, withS, wM, widthW]
  rw [plusL_len h.len, plusL_at h.len, hsum, hms]
  have e1 : s.hi - (s.hi - sumL s.seen) + (many : Int) = sumL s.seen + many := by omega
  have e2 : s.hi - (sumL s.seen + (many : Int)) = s.hi - sumL s.seen - many := by omega
  rw [e1, e2]

theorem wK_le {s : Strat} {coins : Int} (h0 : 0 ≤ coins) : ∀ k, wK s k ≤ coins ↔ ∀ c, c < k → (rangeAt s c).2 - (rangeAt s c).1 ≤ coins
  | 0 => by simp [wK, h0]
  | k + 1 => by
    have ih := wK_le (s := s) h0 k
    simp only [wK]
    constructor
    · intro h c hc
      by_cases e : c = k
      · subst e; omega
      · exact ih.1 (by omega) c (by omega)
    · intro h
      have h1 := ih.2 fun c hc => h c (by omega)
      have h2 := h k (by omega)
      omega

def refNarrowB (s : Strat) (coins : Int) (many : Nat) : Bool := (uptoL s.seen.length many []).all fun y => !(decide (sumL y = many) && decide (coins < widthS (withS s y)))

theorem mem_more {s : Strat} {many : Nat} {y : List Int} : (y ∈ uptoL s.seen.length many [] ∧ sumL y = many) ↔ More s many y := by
  constructor
  · rintro ⟨h, hs⟩
    obtain ⟨z, e, h1, h2, h3⟩ := (mem_uptoL _ _ _ _).1 h
    obtain rfl : y = z := e
    exact ⟨h1, h2, hs⟩
  · intro h
    exact ⟨(mem_uptoL _ _ _ _).2 ⟨y, rfl, h.len, h.pos, by rw [h.sum]; exact Int.le_refl _⟩, h.sum⟩

theorem refNarrow_iff {s : Strat} {coins : Int} {many : Nat} (h0 : 0 ≤ coins) : refNarrowB s coins many = true ↔ ∀ y, More s many y → ∀ c, c < s.seen.length → wM s many (s.seen[c]?.getD 0 + y[c]?.getD 0) ≤ coins := by
  unfold refNarrowB
  rw [List.all_eq_true]
  constructor
  · intro h y hy c hc
    obtain ⟨h1, h2⟩ := mem_more.2 hy
    have := h y h1
    simp only [Bool.not_eq_true', Bool.and_eq_false_iff, decide_eq_false_iff_not] at this
    rcases this with h3 | h3
    · exact absurd h2 h3
    · have h4 : widthS (withS s y) ≤ coins := by omega
      have h5 := (wK_le h0 _).1 h4 c (by show c < (plusL s.seen y).length; rw [plusL_len hy.len]; exact hc)
      rwa [with_width hy] at h5
  · intro h y hy
    simp only [Bool.not_eq_true', Bool.and_eq_false_iff, decide_eq_false_iff_not]
    by_cases hs : sumL y = many
    · right
      have hm := mem_more.1 ⟨hy, hs⟩
      have : widthS (withS s y) ≤ coins := (wK_le h0 _).2 fun c hc => by
        rw [with_width hm]
        have hc' : c < (plusL s.seen y).length := hc
        rw [plusL_len hm.len] at hc'
        exact h y hm c hc'
      omega
    · left; exact hs

theorem wM_mono {s : Strat} {n : Int} {many x y : Int} (hs : stratB n s = true) (ha : s.seen.length = 1) (hxy : x ≤ y) : wM s many x ≤ wM s many y := by
  obtain ⟨k1, k2, k3, k4⟩ := strat_nums hs
  simp only [wM, widthW, leastI, mostI]
  have hb : ((((s.seen.length : Int) == 1) : Bool)) = true := by simp [ha]
  simp only [hb, if_true]
  have := getI_mono (a := s.coins) (x := x + (s.hi - sumL s.seen - many)) (y := y + (s.hi - sumL s.seen - many)) (t := s.hi) k1.1 (by omega) k2.1
  omega

theorem narrowB_iff {s : Strat} {coins : Int} {many : Nat} : narrowB s coins many = true ↔ ∀ c, c < s.seen.length → ∀ k : Nat, k ≤ many → wM s many (s.seen[c]?.getD 0 + k) ≤ coins := by
  constructor
  · intro h c hc k hk
    unfold narrowB at h
    have h1 := List.all_eq_true.1 h s.seen[c] (List.getElem_mem hc)
    have h2 := List.all_eq_true.1 h1 k (List.mem_range.2 (by omega))
    rw [List.getElem?_eq_getElem hc, Option.getD_some]
    exact okW_iff.1 h2
  · intro h
    refine narrow_yes fun j x hj hx k hk => okW_iff.2 ?_
    have := h j hj k hk
    rwa [hx, Option.getD_some] at this

theorem sum_two_at : ∀ (n c o : Nat) (x y : Int), c < n → o < n → c ≠ o → sumL (((List.replicate n 0).set c x).set o y) = x + y := by
  intro n c o x y hc ho hne
  have hz : sumL (List.replicate n (0 : Int)) = 0 := by
    clear hc ho
    induction n with
    | zero => rfl
    | succ n ih => rw [List.replicate_succ, sumL, ih]; omega
  rw [sumL_set (by simp; omega), sumL_set (by simp; omega), hz, getD_set (by simp; omega), if_neg (Ne.symm hne)]
  rw [List.getElem?_replicate, List.getElem?_replicate, if_pos hc, if_pos ho]
  simp

theorem narrow_ref {n : Int} {s : Strat} {coins : Int} {many : Nat} (hs : stratB n s = true) (hn : 1 ≤ n) (h0 : 0 ≤ coins) : refNarrowB s coins many = narrowB s coins many := by
  have hlen := (stratB_iff.1 hs).2.2.2.2.1
  rw [Bool.eq_iff_iff, refNarrow_iff h0, narrowB_iff]
  constructor
  · intro h c hc k hk
    by_cases ha : s.seen.length = 1
    · have hy : More s many [(many : Int)] := ⟨by simp [ha], by simp, by simp [sumL]⟩
      obtain rfl : c = 0 := by omega
      have := h _ hy 0 hc
      refine Int.le_trans (wM_mono hs ha ?_) this
      simp
      omega
    · obtain ⟨o, ho, hoc⟩ : ∃ o, o < s.seen.length ∧ c ≠ o := by
        by_cases e : c = 0
        · exact ⟨1, by omega, by omega⟩
        · exact ⟨0, by omega, by omega⟩
      have hy : More s many (((List.replicate s.seen.length 0).set c (k : Int)).set o ((many - k : Nat) : Int)) := by
        refine ⟨by simp, fun z hz => ?_, ?_⟩
        · rcases List.mem_or_eq_of_mem_set hz with hz | rfl
          · rcases List.mem_or_eq_of_mem_set hz with hz | rfl
            · rw [(List.mem_replicate.1 hz).2]; exact Int.le_refl _
            · omega
          · omega
        · rw [sum_two_at _ _ _ _ _ hc ho hoc]; omega
      have := h _ hy c hc
      rwa [getD_set (by simp; omega), if_neg hoc, getD_set (by simp; omega), if_pos rfl] at this
  · intro h y hy c hc
    have h1 := elem_le_sum hy.pos c
    rw [hy.sum] at h1
    have := h c hc (y[c]?.getD 0).toNat (by omega)
    rwa [show (((y[c]?.getD 0).toNat : Nat) : Int) = y[c]?.getD 0 by omega] at this

theorem wM_next {n : Int} {s : Strat} {many x : Int} (hs : stratB n s = true) : wM s (many + 1) (x + 1) ≤ wM s many x ∧ wM s (many + 1) x ≤ wM s many x := by
  obtain ⟨k1, k2, k3, k4⟩ := strat_nums hs
  simp only [wM, widthW, leastI, mostI]
  have m1 := getI_mono (a := s.coins) (x := x) (y := x + 1) (t := s.hi) k1.1 (by omega) k2.1
  have m2 := getI_mono (a := s.coins) (x := x + (s.hi - sumL s.seen - (many + 1))) (y := x + (s.hi - sumL s.seen - many)) (t := s.hi) k1.1 (by omega) k2.1
  have e1 : x + 1 + (s.hi - sumL s.seen - (many + 1)) = x + (s.hi - sumL s.seen - many) := by omega
  rw [e1]
  by_cases ha : s.seen.length = 1
  · have hb : ((((s.seen.length : Int) == 1) : Bool)) = true := by simp [ha]
    simp only [hb, if_true]
    constructor
    · split <;> split <;> omega
    · split <;> split <;> omega
  · have hb : ((((s.seen.length : Int) == 1) : Bool)) = false := beq_eq_false_iff_ne.2 (by omega)
    simp only [hb, Bool.false_eq_true, if_false]
    omega

theorem narrow_succ {n : Int} {s : Strat} {coins : Int} {many : Nat} (hs : stratB n s = true) (h : narrowB s coins many = true) : narrowB s coins (many + 1) = true := by
  rw [narrowB_iff] at *
  intro c hc k hk
  cases k with
  | zero =>
    have h1 := h c hc 0 (by omega)
    have h2 := (wM_next (many := many) (x := s.seen[c]?.getD 0 + (0 : Nat)) hs).2
    rw [show ((many + 1 : Nat) : Int) = (many : Int) + 1 by omega]
    omega
  | succ k =>
    have h1 := h c hc k (by omega)
    have h2 := (wM_next (many := many) (x := s.seen[c]?.getD 0 + (k : Nat)) hs).1
    rw [show ((many + 1 : Nat) : Int) = (many : Int) + 1 by omega, show s.seen[c]?.getD 0 + ((k + 1 : Nat) : Int) = s.seen[c]?.getD 0 + (k : Int) + 1 by omega]
    omega
theorem narrow_mono {n : Int} {s : Strat} {coins : Int} {a b : Nat} (hs : stratB n s = true) (hab : a ≤ b) (h : narrowB s coins a = true) : narrowB s coins b = true := by
  obtain ⟨d, rfl⟩ : ∃ d, b = a + d := ⟨b - a, by omega⟩
  clear hab
  induction d with
  | zero => exact h
  | succ d ih => exact narrow_succ hs ih

theorem narrow_all {n : Int} {s : Strat} {coins : Int} (hs : stratB n s = true) (hn : 1 ≤ n) (h0 : 0 ≤ coins) : narrowB s coins (s.hi - sumL s.seen).toNat = true := by
  obtain ⟨k1, k2, k3, k4⟩ := strat_nums hs
  obtain ⟨_, g1, g2, g3, hlen, _, _⟩ := stratB_iff.1 hs
  rw [narrowB_iff]
  intro c hc k hk
  have hm : (((s.hi - sumL s.seen).toNat : Nat) : Int) = s.hi - sumL s.seen := by omega
  simp only [wM, widthW, leastI, mostI]
  rw [hm]
  have e1 : s.seen[c]?.getD 0 + (k : Int) + (s.hi - sumL s.seen - (s.hi - sumL s.seen)) = s.seen[c]?.getD 0 + k := by omega
  rw [e1]
  by_cases ha : s.seen.length = 1
  · rw [if_pos (by simp [ha])]
    have e := sumL_one ha
    obtain rfl : c = 0 := by omega
    have e2 : s.seen[0]?.getD 0 = sumL s.seen := by rw [e]; simp [sumL]
    have h1 := getI_mono (a := s.coins) (x := s.seen[0]?.getD 0 + k) (y := s.hi) (t := s.hi) k1.1 (by omega) k2.1
    rw [getI_self k2.1] at h1
    split
    · split at h1 <;> omega
    · rw [if_neg (by omega)] at h1; omega
  · rw [if_neg (by simp; omega)]
    omega

theorem bsF_least {f : Nat → Bool} (hmono : ∀ a b, a ≤ b → f a = true → f b = true) : ∀ (t low high : Nat), low ≤ high → high - low ≤ t → (∀ j, j < low → f j = false) → f high = true →
    f (bsF f t low high) = true ∧ (∀ j, j < bsF f t low high → f j = false) ∧ bsF f t low high ≤ high
  | 0, low, high, hle, ht, hl, hh => by
    obtain rfl : low = high := by omega
    exact ⟨hh, hl, Nat.le_refl _⟩
  | t + 1, low, high, hle, ht, hl, hh => by
    rw [bsF]
    by_cases hlt : low < high
    · rw [if_pos hlt]
      cases hf : f ((low + high) / 2) with
      | true =>
        rw [if_pos rfl]
        obtain ⟨a, b, c⟩ := bsF_least hmono t low ((low + high) / 2) (by omega) (by omega) hl hf
        exact ⟨a, b, by omega⟩
      | false =>
        rw [if_neg (by simp)]
        refine bsF_least hmono t ((low + high) / 2 + 1) high (by omega) (by omega) (fun j hj => ?_) hh
        cases hj2 : f j with
        | false => rfl
        | true => rw [hmono j ((low + high) / 2) (by omega) hj2] at hf; cases hf
    · rw [if_neg hlt]
      obtain rfl : low = high := by omega
      exact ⟨hh, hl, Nat.le_refl _⟩

theorem need_least {n : Int} {s : Strat} {coins : Int} (hs : stratB n s = true) (hn : 1 ≤ n) (h0 : 0 ≤ coins) :
    narrowB s coins (needN s coins) = true ∧ (∀ j, j < needN s coins → narrowB s coins j = false) ∧ (needN s coins : Int) ≤ s.hi - sumL s.seen := by
  have k3 := (strat_nums hs).2.2.1
  obtain ⟨a, b, c⟩ := bsF_least (f := narrowB s coins) (fun a b hab h => narrow_mono hs hab h) (s.hi - sumL s.seen).toNat 0 (s.hi - sumL s.seen).toNat (by omega) (by omega) (by intro j hj; omega) (narrow_all hs hn h0)
  exact ⟨a, b, by unfold needN; omega⟩
end Go.Proofs.Ytobeffjdfhkjeaa
