import Derived.Test.YtmbkpfkkohpnkaaOn
import Derived.Test.YtmbkpfkkohpnkaaCh
set_option linter.unusedVariables false
set_option linter.unusedSimpArgs false
namespace Go.Proofs.Ytmbkpfkkohpnkaa

/-! ### Taps, plain -/
def ridesC (l : List Tp) (c : Int) : List Rd := (l.filter fun x => decide (x.card = c)).map Tp.ride
def cntAt (cs : List Int) (m : Int) : Int := (cs[m.toNat]?).getD 0
def tapB (t : Tar) (cs : List Int) (x : Tp) : Bool := inB x.machine 0 3 && (inB x.card 0 9 && (inB x.number 0 (cntAt cs x.machine - 1) && rideB t x.ride))
def clashB (x y : Tp) : Bool := decide (x.machine = y.machine) && (decide (x.number = y.number) && !decide (x = y))
def twiceB (l : List Tp) : Bool := l.any fun x => l.any fun y => clashB x y
def NoClash (l : List Tp) : Prop := ∀ x ∈ l, ∀ y ∈ l, x.machine = y.machine → x.number = y.number → x = y
theorem twiceB_false {l : List Tp} : twiceB l = false ↔ NoClash l := by
  unfold twiceB NoClash clashB
  constructor
  · intro h x hx y hy e1 e2
    rw [List.any_eq_false] at h
    have h1 := h x hx
    simp only [Bool.not_eq_true] at h1
    rw [List.any_eq_false] at h1
    have h2 := h1 y hy
    by_cases e : x = y
    · exact e
    · simp [e1, e2, e] at h2
  · intro h
    rw [List.any_eq_false]
    intro x hx hc
    obtain ⟨y, hy, hc⟩ := List.any_eq_true.1 hc
    simp only [Bool.and_eq_true, decide_eq_true_eq, Bool.not_eq_true', decide_eq_false_iff_not] at hc
    exact hc.2.2 (h x hx y hy hc.1 hc.2.1)
theorem NoClash.sub {l m : List Tp} (h : NoClash l) (hs : ∀ x ∈ m, x ∈ l) : NoClash m := fun x hx y hy => h x (hs x hx) y (hs y hy)
def cardsB (l : List Tp) : Bool := (List.range 10).any fun (c : Nat) => decide (12 < (onceL (ridesC l c)).length)
def countsB (cs : List Int) : Bool := decide (cs.length = 4) && cs.all fun x => inB x 0 50
def tapsF (t : Tar) (l : List Tp) (cs : List Int) : Int :=
  if tarB t then (if 40 < l.length then 3 else if countsB cs then (if l.all (tapB t cs) then (if twiceB l then 6 else if cardsB l then 3 else 0) else 2) else 1) else 1
def hasB (l : List Tp) (m n : Int) : Bool := l.any fun x => decide (x.machine = m) && decide (x.number = n)
def missL (l : List Tp) (m : Int) (n : Int) : List Int := ((List.range n.toNat).filter fun (i : Nat) => !hasB l m i).map fun (i : Nat) => (i : Int)
def missLL (l : List Tp) (cs : List Int) : List (List Int) := (List.range cs.length).map fun (m : Nat) => missL l m (cntAt cs m)
def duesL (t : Tar) (l : List Tp) : List Int := (List.range 10).map fun (c : Nat) => (chargeT t (onceL (ridesC l c))).1
def singleAt (t : Tar) (p : Int × Int) : Int := (t.singles[(p.2 - p.1).toNat]?).getD 0
def cheapT (t : Tar) (lo hi : Int) : Int := (widerL t lo hi).foldl (fun m p => min m (singleAt t p)) 10000
def deaRow (t : Tar) (lo : Nat) (m : Int) : Int := (List.range (t.zones.toNat - lo)).foldl (fun m (k : Nat) => max m (cheapT t lo ((lo + k : Nat) : Int))) m
def deaT (t : Tar) : Int := (List.range t.zones.toNat).foldl (fun m lo => deaRow t lo m) 0
def lostL : List (List Int) → Nat
  | [] => 0
  | r :: l => r.length + lostL l
def lostN (l : List Tp) (cs : List Int) : Nat := lostL (missLL l cs)
theorem lostL_append : ∀ (a b : List (List Int)), lostL (a ++ b) = lostL a + lostL b
  | [], b => by simp [lostL]
  | r :: a, b => by simp [lostL, lostL_append a b]; omega
theorem sumI_append : ∀ (a b : List Int), sumI (a ++ b) = sumI a + sumI b
  | [], b => by simp [sumI]
  | r :: a, b => by simp [sumI, sumI_append a b]; omega
def totalLo (t : Tar) (l : List Tp) : Int := sumI (duesL t l)
def totalHi (t : Tar) (l : List Tp) (cs : List Int) : Int := totalLo t l + (lostN l cs : Int) * deaT t

theorem ridesC_snoc (l : List Tp) (x : Tp) (c : Int) : ridesC (l ++ [x]) c = if x.card = c then ridesC l c ++ [x.ride] else ridesC l c := by
  unfold ridesC
  rw [List.filter_append, List.map_append]
  by_cases h : x.card = c
  · rw [if_pos h]
    simp [h]
  · rw [if_neg h]
    simp [h]
theorem ridesC_len (l : List Tp) (c : Int) : (ridesC l c).length ≤ l.length := by
  unfold ridesC
  rw [List.length_map]
  exact List.length_filter_le _ _
theorem mem_ridesC {l : List Tp} {c : Int} {r : Rd} : r ∈ ridesC l c ↔ ∃ x ∈ l, x.card = c ∧ x.ride = r := by
  unfold ridesC
  simp only [List.mem_map, List.mem_filter, decide_eq_true_eq, and_assoc]
/-- What taps without an error are. -/
structure TapsOk (t : Tar) (l : List Tp) (cs : List Int) : Prop where
  tar : tarB t = true
  many : l.length ≤ 40
  four : cs.length = 4
  cnt : ∀ x ∈ cs, 0 ≤ x ∧ x ≤ 50
  taps : ∀ x ∈ l, tapB t cs x = true
  apart : NoClash l
  cards : ∀ c : Nat, c < 10 → (onceL (ridesC l c)).length ≤ 12
theorem countsB_iff {cs : List Int} : countsB cs = true ↔ cs.length = 4 ∧ ∀ x ∈ cs, 0 ≤ x ∧ x ≤ 50 := by
  unfold countsB
  simp [inB]
theorem cardsB_false {l : List Tp} : cardsB l = false ↔ ∀ c : Nat, c < 10 → (onceL (ridesC l c)).length ≤ 12 := by
  unfold cardsB
  rw [List.any_eq_false]
  constructor
  · intro h c hc
    have := h c (List.mem_range.2 hc)
    simpa using this
  · intro h c hc
    have := h c (List.mem_range.1 hc)
    simpa using this
theorem tapsF_ok {t : Tar} {l : List Tp} {cs : List Int} : tapsF t l cs = 0 ↔ TapsOk t l cs := by
  unfold tapsF
  constructor
  · intro h
    split at h
    · split at h
      · cases h
      · split at h
        · split at h
          · split at h
            · cases h
            · split at h
              · cases h
              · rename_i h1 h2 h3 h4 h5 h6
                obtain ⟨f1, f2⟩ := countsB_iff.1 h3
                exact ⟨h1, by omega, f1, f2, List.all_eq_true.1 h4, twiceB_false.1 (by simpa using h5), cardsB_false.1 (by simpa using h6)⟩
          · cases h
        · cases h
    · cases h
  · intro h
    rw [if_pos h.tar, if_neg (by have := h.many; omega), if_pos (countsB_iff.2 ⟨h.four, h.cnt⟩), if_pos (List.all_eq_true.2 h.taps), twiceB_false.2 h.apart, cardsB_false.2 h.cards]
    rfl
theorem TapsOk.rode {t : Tar} {l : List Tp} {cs : List Int} (h : TapsOk t l cs) {c : Nat} (hc : c < 10) : Rode t (onceL (ridesC l c)) := by
  refine ⟨h.tar, h.cards c hc, fun r hr => ?_⟩
  obtain ⟨x, hx, _, rfl⟩ := mem_ridesC.1 (mem_onceL.1 hr)
  have := h.taps x hx
  unfold tapB at this
  simp only [Bool.and_eq_true] at this
  exact this.2.2.2
theorem duesL_len (t : Tar) (l : List Tp) : (duesL t l).length = 10 := by simp [duesL]
end Go.Proofs.Ytmbkpfkkohpnkaa
