import Derived.Test.YtobeffjdfhkjeaaWords
set_option linter.unusedVariables false
set_option linter.unusedSimpArgs false
namespace Go.Proofs.Ytobeffjdfhkjeaa
open Go Go.RowKit

theorem Later.out {w w' : World} (h : ∃ x : Later w, w' = x.val) : Below w.heap.size w w' := by
  obtain ⟨x, rfl⟩ := h
  exact x.property

theorem inB_iff {n lo hi : Int} : inB n lo hi = true ↔ lo ≤ n ∧ n ≤ hi := by simp [inB]

theorem stratB_iff {n : Int} {s : Strat} : stratB n s = true ↔ (0 ≤ s.coins ∧ s.coins ≤ 10000000) ∧ 0 ≤ s.lo ∧ s.lo ≤ s.hi ∧ s.hi ≤ 400 ∧ (s.seen.length : Int) = n ∧
    (∀ (j : Nat) (x : Int), s.seen[j]? = some x → 0 ≤ x ∧ x ≤ 400) ∧ sumL s.seen ≤ s.lo := by
  have e : (s.seen.all fun x => inB x 0 400) = true ↔ ∀ (j : Nat) (x : Int), s.seen[j]? = some x → 0 ≤ x ∧ x ≤ 400 := by
    constructor
    · intro h j x hx
      exact inB_iff.1 (List.all_eq_true.1 h x (List.mem_of_getElem? hx))
    · intro h
      exact all_of fun j x _ hx => inB_iff.2 (h j x hx)
  unfold stratB
  simp only [Bool.and_eq_true, inB_iff, decide_eq_true_eq, e]
  constructor
  · rintro ⟨a, b, c, d, e, f, g⟩
    exact ⟨a, b.1, d, c.2, e, f, g⟩
  · rintro ⟨a, b, c, d, e, f, g⟩
    exact ⟨a, ⟨b, by omega⟩, ⟨by omega, d⟩, c, e, f, g⟩

theorem stratB_no {n : Int} {s : Strat} (h : ¬ ((0 ≤ s.coins ∧ s.coins ≤ 10000000) ∧ 0 ≤ s.lo ∧ s.lo ≤ s.hi ∧ s.hi ≤ 400 ∧ (s.seen.length : Int) = n ∧
    (∀ (j : Nat) (x : Int), s.seen[j]? = some x → 0 ≤ x ∧ x ≤ 400) ∧ sumL s.seen ≤ s.lo)) : stratB n s = false := by
  rw [Bool.eq_false_iff]
  exact fun e => h (stratB_iff.1 e)

theorem fault_many {n : Int} {ss : List Strat} (h : 8 < ss.length) : faultI n ss = 3 := by simp [faultI, h]
theorem fault_n {n : Int} {ss : List Strat} (h8 : ¬ 8 < ss.length) (h : inB n 1 5 = false) : faultI n ss = 1 := by simp [faultI, h8, h]
theorem fault_bad {n : Int} {ss : List Strat} {k : Nat} {s : Strat} (h8 : ¬ 8 < ss.length) (hs : ss[k]? = some s) (hb : stratB n s = false) : faultI n ss = 1 := by
  simp only [faultI, h8, if_false]
  rw [not_all_of hs hb]
  simp
theorem fault_ok {n : Int} {ss : List Strat} (h8 : ¬ 8 < ss.length) (h : inB n 1 5 = true) (hall : ∀ (j : Nat) (s : Strat), j < ss.length → ss[j]? = some s → stratB n s = true) : faultI n ss = 0 := by
  simp only [faultI, h8, if_false, h]
  rw [all_of hall]
  simp
theorem fault_zero {n : Int} {ss : List Strat} (h : faultI n ss = 0) : ss.length ≤ 8 ∧ 1 ≤ n ∧ n ≤ 5 ∧ ∀ (j : Nat) (s : Strat), ss[j]? = some s → stratB n s = true := by
  unfold faultI at h
  split at h
  · cases h
  · split at h
    · rename_i h8 hh
      simp only [Bool.and_eq_true] at hh
      have := inB_iff.1 hh.1
      exact ⟨by omega, this.1, this.2, fun j s hs => List.all_eq_true.1 hh.2 s (List.mem_of_getElem? hs)⟩
    · cases h
theorem seen_ok {n : Int} {s : Strat} (hn : n ≤ 5) (h : stratB n s = true) : SumOk s.seen := by
  obtain ⟨_, _, _, _, hl, hx, _⟩ := stratB_iff.1 h
  refine sumOk_of (by omega) fun x hm => ?_
  obtain ⟨j, hj, rfl⟩ := List.getElem_of_mem hm
  have := hx j _ (List.getElem?_eq_getElem hj)
  omega

theorem NumsAt.at_ {K : IntKind} {w : World} {A : Option Addr} {n c : Nat} {l : List Int} (h : NumsAt K w (.slice A n c) l) {k : Nat} (hk : k < l.length) :
    ∃ b o x, A = some ⟨b, o, none⟩ ∧ l[k]? = some x ∧ w.cell? ⟨b, o + k, none⟩ = some (.int K x) ∧ b < w.heap.size := by
  obtain ⟨A', c', e, _, _, hT⟩ := h
  cases e
  obtain ⟨b, o, e, hc⟩ := hT (by omega)
  have h1 := hc k hk
  rw [List.getElem?_eq_getElem hk, Option.getD_some] at h1
  exact ⟨b, o, _, e, List.getElem?_eq_getElem hk, h1, World.block_lt_of_cell? _ _ h1⟩

theorem RowsAt.at_ {w : World} {A : Option Addr} {n c : Nat} {ll : List (List Int)} (h : RowsAt w (.slice A n c) ll) {k : Nat} (hk : k < ll.length) :
    ∃ b o l u, A = some ⟨b, o, none⟩ ∧ ll[k]? = some l ∧ w.cell? ⟨b, o + k, none⟩ = some u ∧ NumsAt .i64 w u l ∧ b < w.heap.size := by
  obtain ⟨A', c', e, _, _, hT⟩ := h
  cases e
  obtain ⟨b, o, e, hc⟩ := hT (by omega)
  obtain ⟨u, h1, h2⟩ := hc k hk
  rw [List.getElem?_eq_getElem hk, Option.getD_some] at h2
  exact ⟨b, o, _, u, e, List.getElem?_eq_getElem hk, h1, h2, World.block_lt_of_cell? _ _ h1⟩

theorem StrataAt.at_ {w : World} {A : Option Addr} {n c : Nat} {ss : List Strat} (h : StrataAt w (.slice A n c) ss) {k : Nat} (hk : k < ss.length) :
    ∃ b o s u, A = some ⟨b, o, none⟩ ∧ ss[k]? = some s ∧ NumsAt .i64 w u s.seen ∧ w.cell? ⟨b, o + k * 4, none⟩ = some (.int .i64 s.coins) ∧ w.cell? ⟨b, o + k * 4 + 1, none⟩ = some (.int .i64 s.lo) ∧
      w.cell? ⟨b, o + k * 4 + 2, none⟩ = some (.int .i64 s.hi) ∧ w.cell? ⟨b, o + k * 4 + 3, none⟩ = some u ∧ b < w.heap.size := by
  obtain ⟨A', c', e, _, _, hT⟩ := h
  cases e
  obtain ⟨b, o, e, hc⟩ := hT (by omega)
  obtain ⟨u, h0, h1, h2, h3, h4⟩ := hc k ss[k] (List.getElem?_eq_getElem hk)
  exact ⟨b, o, _, u, e, List.getElem?_eq_getElem hk, h0, h1, h2, h3, h4, World.block_lt_of_cell? _ _ h1⟩

theorem NumsAt.form {K : IntKind} {w : World} {v : Value} {l : List Int} (h : NumsAt K w v l) : ∃ A c, v = .slice A l.length c ∧ l.length ≤ c ∧ c ≤ 9223372036854775807 := by
  obtain ⟨A, c, e, h1, h2, _⟩ := h
  exact ⟨A, c, e, h1, by simpa [maxLen] using h2⟩
theorem RowsAt.form {w : World} {v : Value} {l : List (List Int)} (h : RowsAt w v l) : ∃ A c, v = .slice A l.length c ∧ l.length ≤ c ∧ c ≤ 9223372036854775807 := by
  obtain ⟨A, c, e, h1, h2, _⟩ := h
  exact ⟨A, c, e, h1, by simpa [maxLen] using h2⟩
theorem StrataAt.form {w : World} {v : Value} {l : List Strat} (h : StrataAt w v l) : ∃ A c, v = .slice A l.length c ∧ l.length ≤ c ∧ c ≤ 9223372036854775807 := by
  obtain ⟨A, c, e, h1, h2, _⟩ := h
  exact ⟨A, c, e, h1, by simpa [maxLen] using h2⟩

def listsB (n : Int) (m : Nat) (ll : List (List Int)) : Bool := decide (ll.length = m) && ll.all fun l => decide ((l.length : Int) = n) && l.all fun x => inB x 0 400
def rowB (n : Int) (l : List Int) : Bool := decide ((l.length : Int) = n) && l.all fun x => inB x 0 400

def lowB (seen l : List Int) : Bool := (List.range l.length).all fun c => decide (seen[c]?.getD 0 ≤ l[c]?.getD 0)
def partB (s : Strat) (l : List Int) : Bool := lowB s.seen l && inB (sumL l) s.lo s.hi

theorem lowB_no {seen l : List Int} {k : Nat} {x y : Int} (hx : l[k]? = some x) (hy : seen[k]? = some y) (h : x < y) : lowB seen l = false := by
  unfold lowB
  rw [List.all_eq_false]
  exact ⟨k, List.mem_range.2 (List.getElem?_eq_some_iff.1 hx).1, by simp [hx, hy]; omega⟩
theorem lowB_yes {seen l : List Int} (h : ∀ k, k < l.length → seen[k]?.getD 0 ≤ l[k]?.getD 0) : lowB seen l = true := by
  unfold lowB
  rw [List.all_eq_true]
  intro k hk
  simpa using h k (List.mem_range.1 hk)
end Go.Proofs.Ytobeffjdfhkjeaa
