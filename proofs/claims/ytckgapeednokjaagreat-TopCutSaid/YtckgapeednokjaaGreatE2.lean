import Derived.Test.YtckgapeednokjaaGreatK5
set_option linter.unusedVariables false
set_option linter.unusedSimpArgs false
namespace Go.Proofs.YtckgapeednokjaaGreat
open Go Go.Proofs Go.RowKit

/-! ### Fair weights: plain -/
theorem sumL_D : ∀ l : List Int, sumL l = sumD l
  | [] => rfl
  | a :: l => by simp only [sumL, sumD, sumL_D l]
theorem wgX_wt (d : DDay) (ws : List Int) (x : Nat) : wgX d ws x = wtX (segN d.blocks) ws x := by
  unfold wgX wgL wtX wtL
  exact sumL_D _
theorem fairK_all {d : DDay} {ws : List Int} {n : Nat} (h : fairK d ws n = true) {x : Nat} (hx : x < n) (h0 : x ≠ 0) (hl : legalX d x = true) : wgX d ws x ≤ 1000 := by
  have := List.all_eq_true.1 h x (List.mem_range.2 hx)
  simp [h0, hl] at this
  omega
theorem fairK_of {d : DDay} {ws : List Int} {n : Nat} (h : ∀ x, x < n → x ≠ 0 → legalX d x = true → wgX d ws x ≤ 1000) : fairK d ws n = true := by
  refine List.all_eq_true.2 fun x hx => ?_
  have hx := List.mem_range.1 hx
  by_cases h0 : x = 0
  · simp [h0]
  · cases hl : legalX d x with
    | false => simp
    | true =>
      have := h x hx h0 hl
      simp
      right
      omega
theorem bound_err {d : DDay} (hf : (faultD d != 0) = false) (ws : List Int) : (boundQ d ws).2 = 0 ∨ (boundQ d ws).2 = 2 ∨ (boundQ d ws).2 = 9 := by
  unfold boundQ
  rw [hf]
  cases capB d ws <;> cases fairK d ws (2 ^ segN d.blocks) <;> simp
theorem bound_best {d : DDay} (hd : DayOk d) (ws : List Int) (h0 : (boundQ d ws).2 = 0) (hc : (bestV d).can = true) : (boundQ d ws).1 ≤ ((bestP d).length : Int) := by
  have hf : (faultD d != 0) = false := by simp [day_ok.2 hd]
  have hs := hd.segs
  unfold boundQ at h0 ⊢
  rw [hf] at h0 ⊢
  cases hcap : capB d ws with
  | false => rw [hcap] at h0; simp at h0
  | true =>
    cases hfk : fairK d ws (2 ^ segN d.blocks) with
    | false => rw [hcap, hfk] at h0; simp at h0
    | true =>
      have hp := plan_parts (best_plan (by omega) hc)
      have hb := fair_bound (w := ws) hp (fun x hl hx0 hx => by rw [← wgX_wt]; exact fairK_all hfk hx hx0 hl)
      rw [← wgX_wt, List.length_map] at hb
      simp only [Bool.false_eq_true, if_false, if_true]
      omega
/-- May one more segment be marked: no legal duty has it and a marked one. -/
def fitsTo (d : DDay) (x s : Nat) (M : List Nat) (k : Nat) : Bool := x.testBit s && (List.range k).all fun set => set == 0 || (!set.testBit s || (!legalX d set || M.all fun j => !set.testBit j))
def fitsS (d : DDay) (x s : Nat) (M : List Nat) : Bool := fitsTo d x s M (2 ^ segN d.blocks)
def markL (d : DDay) (x : Nat) : Nat → List Nat
  | 0 => []
  | s + 1 => markL d x s ++ if fitsS d x s (markL d x s) then [s] else []
theorem mem_mark {d : DDay} {x : Nat} : ∀ {k s : Nat}, s ∈ markL d x k ↔ s < k ∧ fitsS d x s (markL d x s) = true
  | 0, s => by simp [markL]
  | k + 1, s => by
    rw [markL, List.mem_append, mem_mark (k := k)]
    by_cases h : s = k
    · subst h
      cases hf : fitsS d x s (markL d x s) <;> simp
    · constructor
      · rintro (⟨h1, h2⟩ | h1)
        · exact ⟨by omega, h2⟩
        · split at h1
          · simp at h1; exact absurd h1 h
          · simp at h1
      · rintro ⟨h1, h2⟩
        exact .inl ⟨by omega, h2⟩
def apartL (d : DDay) (x k : Nat) : List Int := (List.range (segN d.blocks)).map fun s => if s ∈ markL d x k then (1000 : Int) else 0
theorem apart_get {d : DDay} {x k s : Nat} (h : s < segN d.blocks) : (apartL d x k)[s]?.getD 0 = if s ∈ markL d x k then (1000 : Int) else 0 := by
  unfold apartL
  rw [List.getElem?_map, List.getElem?_range h]
  rfl
theorem mark_len {d : DDay} {x : Nat} : ∀ {k : Nat}, (markL d x k).length ≤ k
  | 0 => by simp [markL]
  | k + 1 => by
    have := mark_len (d := d) (x := x) (k := k)
    rw [markL, List.length_append]
    split <;> simp <;> omega
theorem mark_sum {d : DDay} {x N : Nat} : ∀ {k : Nat}, k ≤ N → sumR k (fun i => if i ∈ markL d x N then (1000 : Int) else 0) = 1000 * ((markL d x k).length : Int)
  | 0, _ => by simp [sumR, sumD, markL]
  | k + 1, hk => by
    have ih := mark_sum (d := d) (x := x) (N := N) (k := k) (by omega)
    rw [sumR_succ, ih, markL, List.length_append]
    have e : (k ∈ markL d x N) ↔ fitsS d x k (markL d x k) = true := by
      rw [mem_mark]
      exact ⟨fun h => h.2, fun h => ⟨by omega, h⟩⟩
    cases hf : fitsS d x k (markL d x k) with
    | true => rw [if_pos (e.2 hf)]; simp; omega
    | false =>
      rw [if_neg (fun h => by rw [e.1 h] at hf; cases hf)]
      simp
theorem fits_no {d : DDay} {x s set : Nat} {M : List Nat} (h : fitsS d x s M = true) (hs : set < 2 ^ segN d.blocks) (h0 : set ≠ 0) (hb : set.testBit s = true) (hl : legalX d set = true) : ∀ j ∈ M, set.testBit j = false := by
  unfold fitsS fitsTo at h
  rw [Bool.and_eq_true] at h
  have := List.all_eq_true.1 h.2 set (List.mem_range.2 hs)
  simp [h0, hb, hl] at this
  exact this
theorem apart_one {d : DDay} {x set N : Nat} (hs : set < 2 ^ segN d.blocks) (h0 : set ≠ 0) (hl : legalX d set = true) : ∀ {k : Nat}, k ≤ N →
    (sumR k (fun i => if set.testBit i then (if i ∈ markL d x N then (1000 : Int) else 0) else 0) = 0 ∨ sumR k (fun i => if set.testBit i then (if i ∈ markL d x N then (1000 : Int) else 0) else 0) = 1000)
  | 0, _ => .inl rfl
  | k + 1, hk => by
    have ih := apart_one (d := d) (x := x) hs h0 hl (N := N) (k := k) (by omega)
    rw [sumR_succ]
    cases hb : set.testBit k with
    | false => simpa using ih
    | true =>
      by_cases hm : k ∈ markL d x N
      · rw [if_pos rfl, if_pos hm]
        have hno := fits_no (mem_mark.1 hm).2 hs h0 hb hl
        have hz : sumR k (fun i => if set.testBit i then (if i ∈ markL d x N then (1000 : Int) else 0) else 0) = 0 := by
          refine (sumR_congr (g := fun _ => 0) fun i hi => ?_).trans (sumR_zero k)
          by_cases hmi : i ∈ markL d x N
          · have := hno i (mem_mark.2 ⟨hi, (mem_mark.1 hmi).2⟩)
            rw [this]
            rfl
          · rw [if_neg hmi]
            split <;> rfl
        rw [hz]
        right
        rfl
      · rw [if_pos rfl, if_neg hm, Int.add_zero]
        exact ih
theorem apart_bound {d : DDay} (hf : (faultD d != 0) = false) (x : Nat) : boundQ d (apartL d x (segN d.blocks)) = (((markL d x (segN d.blocks)).length : Int), 0) := by
  have hlen : (apartL d x (segN d.blocks)).length = segN d.blocks := by simp [apartL]
  have hcap : capB d (apartL d x (segN d.blocks)) = true := by
    unfold capB
    rw [decide_eq_true hlen, Bool.true_and, List.all_eq_true]
    intro y hy
    unfold apartL at hy
    obtain ⟨s, _, rfl⟩ := List.mem_map.1 hy
    split <;> rfl
  have hfk : fairK d (apartL d x (segN d.blocks)) (2 ^ segN d.blocks) = true := by
    refine fairK_of fun set hs h0 hl => ?_
    rw [wgX_wt, wtX_eq]
    have e : sumR (segN d.blocks) (fun i => if set.testBit i then (apartL d x (segN d.blocks))[i]?.getD 0 else 0) = sumR (segN d.blocks) (fun i => if set.testBit i then (if i ∈ markL d x (segN d.blocks) then (1000 : Int) else 0) else 0) :=
      sumR_congr fun i hi => by rw [apart_get hi]
    rw [e]
    rcases apart_one (d := d) (x := x) hs h0 hl (Nat.le_refl (segN d.blocks)) with h | h <;> rw [h] <;> decide
  have hw : wgX d (apartL d x (segN d.blocks)) (fullM (segN d.blocks)) = 1000 * ((markL d x (segN d.blocks)).length : Int) := by
    rw [wgX_wt, wt_full, ← mark_sum (N := segN d.blocks) (Nat.le_refl _)]
    exact sumR_congr fun i hi => apart_get hi
  unfold boundQ
  rw [hf, hcap, hfk, hw]
  simp
  omega
end Go.Proofs.YtckgapeednokjaaGreat
