set_option linter.unusedVariables false
set_option linter.unusedSimpArgs false
set_option linter.unnecessarySimpa false
namespace Go.Proofs.Ytmbkpfkkohpnkaa

/-! ### Tariffs, rides, tickets: plain -/
structure Tar where
  zones : Int
  singles : List Int
  days : List Int
  weeks : List Int
  window : Int
structure Rd where
  day : Int
  minute : Int
  low : Int
  high : Int
  deriving DecidableEq
structure Tk where
  kind : Nat
  low : Int
  high : Int
  day : Int
  minute : Int
  deriving DecidableEq

def inB (n lo hi : Int) : Bool := decide (lo ≤ n) && decide (n ≤ hi)
theorem inB_iff {n lo hi : Int} : inB n lo hi = true ↔ lo ≤ n ∧ n ≤ hi := by simp [inB]

def pricesB (l : List Int) (n : Int) : Bool := decide ((l.length : Int) = n) && l.all fun x => inB x 0 10000
def tarB (t : Tar) : Bool := inB t.zones 1 4 && (inB t.window 0 1440 && (pricesB t.singles t.zones && (pricesB t.days t.zones && pricesB t.weeks t.zones)))
def zonesB (t : Tar) (lo hi : Int) : Bool := inB lo 0 hi && decide (hi < t.zones)
def rideB (t : Tar) (r : Rd) : Bool := inB r.day 0 6 && (inB r.minute 0 1439 && zonesB t r.low r.high)
def tkB (t : Tar) (x : Tk) : Bool :=
  !(decide (2 < x.kind) || !zonesB t x.low x.high) && (if x.kind = 0 then inB x.day 0 6 && inB x.minute 0 1439 else decide (x.minute = 0) && (decide (x.day = 0) || (decide (x.kind = 1) && inB x.day 0 6)))
def kindL (t : Tar) (k : Nat) : List Int := if k = 0 then t.singles else if k = 1 then t.days else t.weeks
def priceT (t : Tar) (x : Tk) : Int := ((kindL t x.kind)[(x.high - x.low).toNat]?).getD 0
def covB (t : Tar) (x : Tk) (r : Rd) : Bool :=
  !(decide (r.low < x.low) || decide (x.high < r.high)) && (if x.kind = 0 then decide (r.day = x.day) && inB r.minute x.minute (x.minute + t.window) else if x.kind = 1 then decide (r.day = x.day) else true)
def startB (l : List Rd) (x : Tk) : Bool := decide (x.kind ≠ 0) || l.any fun r => decide (r.day = x.day) && decide (r.minute = x.minute)
def paidB (t : Tar) (X : List Tk) (r : Rd) : Bool := X.any fun x => covB t x r
def areTk (t : Tar) (l : List Rd) (X : List Tk) : Bool := X.all (fun x => tkB t x && startB l x) && l.all (paidB t X)
def sumT (t : Tar) : List Tk → Int
  | [] => 0
  | x :: X => priceT t x + sumT t X
theorem sumT_append (t : Tar) : ∀ (X Y : List Tk), sumT t (X ++ Y) = sumT t X + sumT t Y
  | [], Y => by simp [sumT]
  | x :: X, Y => by simp [sumT, sumT_append t X Y]; omega

def widerL (t : Tar) (lo hi : Int) : List (Int × Int) := (List.range (lo + 1).toNat).flatMap fun (a : Nat) => (List.range (t.zones - hi).toNat).map fun (k : Nat) => ((a : Int), hi + (k : Int))
def offersAt (r : Rd) (p : Int × Int) : List Tk := [⟨0, p.1, p.2, r.day, r.minute⟩, ⟨1, p.1, p.2, r.day, 0⟩, ⟨2, p.1, p.2, 0, 0⟩]
def offersL (t : Tar) (r : Rd) : List Tk := (widerL t r.low r.high).flatMap (offersAt r)

/-- What is covered, and the first ride that is not. -/
def isC (now : List Bool) (i : Nat) : Bool := now[i]?.getD false
def nextC (t : Tar) (l : List Rd) (x : Tk) (now : List Bool) : List Bool := (List.range 12).map fun i => isC now i || (match l[i]? with | some r => covB t x r | none => false)
def firstC : List Rd → Nat → List Bool → Nat
  | [], i, _ => i
  | _ :: l, i, now => if isC now i then firstC l (i + 1) now else i
def first (l : List Rd) (now : List Bool) : Nat := firstC l 0 now
def better (t : Tar) (x : Tk) (rest best : Int × List Tk) : Int × List Tk :=
  if best.1 < 0 ∨ priceT t x + rest.1 < best.1 then (priceT t x + rest.1, rest.2 ++ [x]) else best
def foldP (t : Tar) (f : Tk → Int × List Tk) : List Tk → Int × List Tk → Int × List Tk
  | [], b => b
  | x :: o, b => foldP t f o (better t x (f x) b)
def payF (t : Tar) (l : List Rd) : Nat → List Bool → Int × List Tk
  | 0, _ => (0, [])
  | n + 1, now => match l[first l now]? with
    | none => (0, [])
    | some r => foldP t (fun x => payF t l n (nextC t l x now)) (offersL t r) (-1, [])
/-- The bill for what is not covered. -/
def pay (t : Tar) (l : List Rd) (now : List Bool) : Int × List Tk := payF t l 13 now
def noneC : List Bool := List.replicate 12 false
def chargeT (t : Tar) (l : List Rd) : Int × List Tk := pay t l noneC

theorem firstC_le : ∀ (l : List Rd) (i : Nat) (now : List Bool), i ≤ firstC l i now ∧ firstC l i now ≤ i + l.length
  | [], i, now => by simp [firstC]
  | r :: l, i, now => by
    unfold firstC
    have := firstC_le l (i + 1) now
    split
    · simp; omega
    · simp
theorem firstC_below : ∀ (l : List Rd) (i : Nat) (now : List Bool) (k : Nat), i ≤ k → k < firstC l i now → isC now k = true
  | [], i, now, k, h1, h2 => by simp [firstC] at h2; omega
  | r :: l, i, now, k, h1, h2 => by
    unfold firstC at h2
    split at h2
    · by_cases e : k = i
      · subst e; assumption
      · exact firstC_below l (i + 1) now k (by omega) h2
    · omega
theorem firstC_not : ∀ (l : List Rd) (i : Nat) (now : List Bool), firstC l i now < i + l.length → isC now (firstC l i now) = false
  | [], i, now, h => by simp [firstC] at h
  | r :: l, i, now, h => by
    unfold firstC at h ⊢
    by_cases hc : isC now i = true
    · rw [if_pos hc] at h ⊢
      exact firstC_not l (i + 1) now (by simp at h; omega)
    · rw [if_neg hc]
      simpa using hc
theorem first_le (l : List Rd) (now : List Bool) : first l now ≤ l.length := by
  have := (firstC_le l 0 now).2
  simpa [first] using this
theorem first_below {l : List Rd} {now : List Bool} {k : Nat} (h : k < first l now) : isC now k = true := firstC_below l 0 now k (by omega) h
theorem first_not {l : List Rd} {now : List Bool} (h : first l now < l.length) : isC now (first l now) = false := firstC_not l 0 now (by simpa [first] using h)
theorem first_is {l : List Rd} {now : List Bool} {k : Nat} (hk : k ≤ l.length) (hb : ∀ i, i < k → isC now i = true) (hn : k < l.length → isC now k = false) : first l now = k := by
  have h1 := first_le l now
  rcases Nat.lt_trichotomy (first l now) k with h | h | h
  · have h2 := first_not (l := l) (now := now) (by omega)
    rw [hb _ h] at h2
    cases h2
  · exact h
  · have h2 := first_below h
    rw [hn (by omega)] at h2
    cases h2
theorem isC_next {t : Tar} {l : List Rd} {x : Tk} {now : List Bool} {i : Nat} (hi : i < 12) : isC (nextC t l x now) i = (isC now i || (match l[i]? with | some r => covB t x r | none => false)) := by
  unfold nextC
  rw [isC, List.getElem?_map, List.getElem?_range hi]
  rfl
/-- How many rides are not covered. -/
def openN (l : List Rd) (now : List Bool) : Nat := ((List.range l.length).filter fun i => !isC now i).length
theorem filter_lt {α : Type} {p q : α → Bool} : ∀ {l : List α}, (∀ x ∈ l, q x = true → p x = true) → (∃ x ∈ l, p x = true ∧ q x = false) → (l.filter q).length < (l.filter p).length
  | [], _, h => by obtain ⟨x, hx, _⟩ := h; cases hx
  | a :: l, h, h2 => by
    have hle : ∀ {m : List α}, (∀ x ∈ m, q x = true → p x = true) → (m.filter q).length ≤ (m.filter p).length := by
      intro m
      induction m with
      | nil => intro _; simp
      | cons b m ih =>
        intro hm
        have ih2 := ih fun x hx => hm x (List.mem_cons_of_mem _ hx)
        have hb := hm b List.mem_cons_self
        cases hq : q b with
        | false =>
          rw [List.filter_cons_of_neg (by simp [hq])]
          cases hp : p b with
          | false => rw [List.filter_cons_of_neg (by simp [hp])]; exact ih2
          | true => rw [List.filter_cons_of_pos hp]; simp; omega
        | true => rw [List.filter_cons_of_pos hq, List.filter_cons_of_pos (hb hq)]; simp; exact ih2
    have h' : ∀ x ∈ l, q x = true → p x = true := fun x hx => h x (List.mem_cons_of_mem _ hx)
    have ha := h a List.mem_cons_self
    obtain ⟨x, hx, hp, hq⟩ := h2
    rcases List.mem_cons.1 hx with e | hx
    · subst e
      rw [List.filter_cons_of_neg (by simp [hq]), List.filter_cons_of_pos hp]
      have := hle h'
      simp; omega
    · have ih := filter_lt (l := l) h' ⟨x, hx, hp, hq⟩
      cases hqa : q a with
      | false =>
        rw [List.filter_cons_of_neg (by simp [hqa])]
        cases hpa : p a with
        | false => rw [List.filter_cons_of_neg (by simp [hpa])]; exact ih
        | true => rw [List.filter_cons_of_pos hpa]; simp; omega
      | true => rw [List.filter_cons_of_pos hqa, List.filter_cons_of_pos (ha hqa)]; simp; exact ih
theorem openN_le (l : List Rd) (now : List Bool) : openN l now ≤ l.length := by
  have := List.length_filter_le (fun i => !isC now i) (List.range l.length)
  simpa [openN] using this
theorem open_next {t : Tar} {l : List Rd} {x : Tk} {now : List Bool} {r : Rd} (hl : l.length ≤ 12) (hr : l[first l now]? = some r) (hc : covB t x r = true) : openN l (nextC t l x now) < openN l now := by
  have hf := (List.getElem?_eq_some_iff.1 hr).1
  refine filter_lt (fun i hi h => ?_) ⟨first l now, List.mem_range.2 hf, ?_, ?_⟩
  · have hi := List.mem_range.1 hi
    rw [isC_next (by omega)] at h
    simp at h
    simp [h.1]
  · simp [first_not hf]
  · rw [isC_next (by omega), hr]
    simp [hc]

theorem tar_pos {t : Tar} (h : tarB t = true) : 1 ≤ t.zones ∧ t.zones ≤ 4 ∧ 0 ≤ t.window ∧ t.window ≤ 1440 := by
  simp [tarB, inB_iff] at h
  omega
theorem kindL_ok {t : Tar} (h : tarB t = true) (k : Nat) : ((kindL t k).length : Int) = t.zones ∧ ∀ x ∈ kindL t k, 0 ≤ x ∧ x ≤ 10000 := by
  simp only [tarB, pricesB, Bool.and_eq_true, decide_eq_true_eq, List.all_eq_true, inB_iff] at h
  obtain ⟨_, _, ⟨h1, h2⟩, ⟨h3, h4⟩, h5, h6⟩ := h
  unfold kindL
  split
  · exact ⟨h1, h2⟩
  · split
    · exact ⟨h3, h4⟩
    · exact ⟨h5, h6⟩
theorem price_bd {t : Tar} (h : tarB t = true) (x : Tk) : 0 ≤ priceT t x ∧ priceT t x ≤ 10000 := by
  unfold priceT
  cases e : (kindL t x.kind)[(x.high - x.low).toNat]? with
  | none => simp
  | some y => exact (kindL_ok h x.kind).2 y (List.mem_of_getElem? e)
theorem sumT_nonneg {t : Tar} (h : tarB t = true) : ∀ X : List Tk, 0 ≤ sumT t X
  | [] => by simp [sumT]
  | x :: X => by have := sumT_nonneg h X; have := (price_bd h x).1; simp only [sumT]; omega
theorem zonesB_iff {t : Tar} {lo hi : Int} : zonesB t lo hi = true ↔ 0 ≤ lo ∧ lo ≤ hi ∧ hi < t.zones := by
  simp [zonesB, inB_iff, and_assoc]
theorem rideB_iff {t : Tar} {r : Rd} : rideB t r = true ↔ (0 ≤ r.day ∧ r.day ≤ 6) ∧ (0 ≤ r.minute ∧ r.minute ≤ 1439) ∧ 0 ≤ r.low ∧ r.low ≤ r.high ∧ r.high < t.zones := by
  simp [rideB, zonesB_iff, inB_iff]
theorem mem_wider {t : Tar} {lo hi : Int} {p : Int × Int} (h0 : 0 ≤ lo) : p ∈ widerL t lo hi ↔ 0 ≤ p.1 ∧ p.1 ≤ lo ∧ hi ≤ p.2 ∧ p.2 < t.zones := by
  unfold widerL
  simp only [List.mem_flatMap, List.mem_map, List.mem_range]
  constructor
  · rintro ⟨a, ha, k, hk, rfl⟩
    refine ⟨?_, ?_, ?_, ?_⟩ <;> simp <;> omega
  · rintro ⟨h1, h2, h3, h4⟩
    obtain ⟨a, b⟩ := p
    simp only at h1 h2 h3 h4
    exact ⟨a.toNat, by omega, (b - hi).toNat, by omega, by rw [Prod.mk.injEq]; omega⟩
theorem offer_ok {t : Tar} (ht : tarB t = true) {r : Rd} (hr : rideB t r = true) {l : List Rd} (hm : r ∈ l) {x : Tk} (hx : x ∈ offersL t r) : covB t x r = true ∧ tkB t x = true ∧ startB l x = true := by
  obtain ⟨⟨d1, d2⟩, ⟨m1, m2⟩, z1, z2, z3⟩ := rideB_iff.1 hr
  have hw := tar_pos ht
  unfold offersL at hx
  obtain ⟨p, hp, hx⟩ := List.mem_flatMap.1 hx
  obtain ⟨p1, p2, p3, p4⟩ := (mem_wider z1).1 hp
  have hz : zonesB t p.1 p.2 = true := zonesB_iff.2 ⟨p1, by omega, p4⟩
  have hn1 : ¬ r.low < p.1 := by omega
  have hn2 : ¬ p.2 < r.high := by omega
  unfold offersAt at hx
  simp only [List.mem_cons, List.not_mem_nil, or_false] at hx
  rcases hx with e | e | e <;> subst e
  · refine ⟨?_, ?_, ?_⟩
    · simp [covB, hn1, hn2, inB_iff]; omega
    · simp [tkB, hz, inB_iff]; omega
    · simp only [startB, ne_eq, not_true_eq_false, decide_false, Bool.false_or, List.any_eq_true, Bool.and_eq_true, decide_eq_true_eq]
      exact ⟨r, hm, rfl, rfl⟩
  · refine ⟨?_, ?_, ?_⟩
    · simp [covB, hn1, hn2]
    · simp [tkB, hz, inB_iff]; omega
    · simp [startB]
  · refine ⟨?_, ?_, ?_⟩
    · simp [covB, hn1, hn2]
    · simp [tkB, hz, inB_iff]
    · simp [startB]
end Go.Proofs.Ytmbkpfkkohpnkaa
