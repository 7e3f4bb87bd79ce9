import Derived.Test.YtmbkpfkkohpnkaaPa
set_option linter.unusedVariables false
set_option linter.unusedSimpArgs false
set_option linter.unnecessarySimpa false
namespace Go.Proofs.Ytmbkpfkkohpnkaa

/-! ### The bill is right, and the least one: plain -/
theorem foldP_congr {t : Tar} {f g : Tk → Int × List Tk} : ∀ {o : List Tk} {b : Int × List Tk}, (∀ x ∈ o, f x = g x) → foldP t f o b = foldP t g o b
  | [], b, _ => rfl
  | x :: o, b, h => by
    simp only [foldP]
    rw [h x List.mem_cons_self, foldP_congr fun y hy => h y (List.mem_cons_of_mem _ hy)]
def billT (t : Tar) (f : Tk → Int × List Tk) (x : Tk) : Int × List Tk := (priceT t x + (f x).1, (f x).2 ++ [x])
theorem foldP_at {t : Tar} {f : Tk → Int × List Tk} : ∀ {o : List Tk} {b : Int × List Tk}, (∀ x ∈ o, 0 ≤ (billT t f x).1) → 0 ≤ b.1 →
    (foldP t f o b = b ∨ ∃ x ∈ o, foldP t f o b = billT t f x) ∧ 0 ≤ (foldP t f o b).1 ∧ (foldP t f o b).1 ≤ b.1 ∧ ∀ x ∈ o, (foldP t f o b).1 ≤ (billT t f x).1
  | [], b, _, hb => by simp [foldP, hb]
  | x :: o, b, h, hb => by
    have hx := h x List.mem_cons_self
    have ho : ∀ y ∈ o, 0 ≤ (billT t f y).1 := fun y hy => h y (List.mem_cons_of_mem _ hy)
    simp only [foldP]
    by_cases hc : priceT t x + (f x).1 < b.1
    · have e : better t x (f x) b = billT t f x := by unfold better billT; rw [if_pos (Or.inr hc)]
      rw [e]
      obtain ⟨h1, h2, h3, h4⟩ := foldP_at (b := billT t f x) ho hx
      have h5 : (billT t f x).1 < b.1 := hc
      refine ⟨Or.inr ?_, h2, by omega, ?_⟩
      · rcases h1 with h1 | ⟨y, hy, h1⟩
        · exact ⟨x, List.mem_cons_self, h1⟩
        · exact ⟨y, List.mem_cons_of_mem _ hy, h1⟩
      · intro y hy
        rcases List.mem_cons.1 hy with e | hy
        · subst e; exact h3
        · exact h4 y hy
    · have e : better t x (f x) b = b := by unfold better; rw [if_neg (by omega)]
      rw [e]
      obtain ⟨h1, h2, h3, h4⟩ := foldP_at (b := b) ho hb
      refine ⟨?_, h2, h3, ?_⟩
      · rcases h1 with h1 | ⟨y, hy, h1⟩
        · exact Or.inl h1
        · exact Or.inr ⟨y, List.mem_cons_of_mem _ hy, h1⟩
      · intro y hy
        rcases List.mem_cons.1 hy with e | hy
        · subst e
          have : (billT t f y).1 = priceT t y + (f y).1 := rfl
          omega
        · exact h4 y hy
theorem foldP_best {t : Tar} {f : Tk → Int × List Tk} {o : List Tk} (h : ∀ x ∈ o, 0 ≤ (billT t f x).1) (hne : o ≠ []) :
    (∃ x ∈ o, foldP t f o (-1, []) = billT t f x) ∧ ∀ x ∈ o, (foldP t f o (-1, [])).1 ≤ (billT t f x).1 := by
  cases o with
  | nil => exact absurd rfl hne
  | cons x o =>
    have hx := h x List.mem_cons_self
    have e : better t x (f x) (-1, []) = billT t f x := by unfold better billT; rw [if_pos (Or.inl (by decide))]
    simp only [foldP]
    rw [e]
    obtain ⟨h1, h2, h3, h4⟩ := foldP_at (b := billT t f x) (fun y hy => h y (List.mem_cons_of_mem _ hy)) hx
    refine ⟨?_, ?_⟩
    · rcases h1 with h1 | ⟨y, hy, h1⟩
      · exact ⟨x, List.mem_cons_self, h1⟩
      · exact ⟨y, List.mem_cons_of_mem _ hy, h1⟩
    · intro y hy
      rcases List.mem_cons.1 hy with e | hy
      · subst e; exact h3
      · exact h4 y hy
/-- Rides that a valid tariff has, at most twelve. -/
structure Rode (t : Tar) (l : List Rd) : Prop where
  tar : tarB t = true
  len : l.length ≤ 12
  ride : ∀ r ∈ l, rideB t r = true
theorem offers_ne {t : Tar} {l : List Rd} (h : Rode t l) {r : Rd} (hr : r ∈ l) : offersL t r ≠ [] := by
  obtain ⟨_, _, z1, z2, z3⟩ := rideB_iff.1 (h.ride r hr)
  intro e
  have hm : (⟨2, r.low, r.high, 0, 0⟩ : Tk) ∈ offersL t r := List.mem_flatMap.2 ⟨(r.low, r.high), (mem_wider z1).2 ⟨z1, by simp, by simp, z3⟩, by simp [offersAt]⟩
  rw [e] at hm
  cases hm
theorem first_mem {l : List Rd} {now : List Bool} {r : Rd} (h : l[first l now]? = some r) : r ∈ l := List.mem_of_getElem? h
theorem payF_fuel {t : Tar} {l : List Rd} (h : Rode t l) : ∀ (n m : Nat) (now : List Bool), openN l now < n → openN l now < m → payF t l n now = payF t l m now
  | 0, _, _, h1, _ => by omega
  | _, 0, _, _, h2 => by omega
  | n + 1, m + 1, now, h1, h2 => by
    unfold payF
    cases hr : l[first l now]? with
    | none => rfl
    | some r =>
      refine foldP_congr fun x hx => ?_
      have hm := first_mem hr
      have hc := open_next h.len hr (offer_ok h.tar (h.ride r hm) hm hx).1
      exact payF_fuel h n m _ (by omega) (by omega)
theorem pay_none {t : Tar} {l : List Rd} {now : List Bool} (hr : l[first l now]? = none) : pay t l now = (0, []) := by
  unfold pay payF
  rw [hr]
theorem pay_some {t : Tar} {l : List Rd} (h : Rode t l) {now : List Bool} {r : Rd} (hr : l[first l now]? = some r) : pay t l now = foldP t (fun x => pay t l (nextC t l x now)) (offersL t r) (-1, []) := by
  have hm := first_mem hr
  unfold pay
  rw [payF, hr]
  refine foldP_congr fun x hx => ?_
  have hc := open_next h.len hr (offer_ok h.tar (h.ride r hm) hm hx).1
  have := openN_le l now
  have := h.len
  exact payF_fuel h _ _ _ (by omega) (by omega)
/-- Do tickets pay for what is not covered? -/
def PaysC (t : Tar) (l : List Rd) (now : List Bool) (X : List Tk) : Prop := ∀ i r, l[i]? = some r → isC now i = false → paidB t X r = true
theorem pay_ok {t : Tar} {l : List Rd} (h : Rode t l) : ∀ (n : Nat) (now : List Bool), openN l now < n →
    0 ≤ (pay t l now).1 ∧ sumT t (pay t l now).2 = (pay t l now).1 ∧ (∀ x ∈ (pay t l now).2, tkB t x = true ∧ startB l x = true) ∧ PaysC t l now (pay t l now).2
  | 0, _, h1 => by omega
  | n + 1, now, h1 => by
    cases hr : l[first l now]? with
    | none =>
      rw [pay_none hr]
      refine ⟨by simp, rfl, by simp, fun i r hi hc => ?_⟩
      have := List.getElem?_eq_none_iff.1 hr
      have h2 := first_below (l := l) (now := now) (k := i) (by have := (List.getElem?_eq_some_iff.1 hi).1; omega)
      rw [hc] at h2
      cases h2
    | some r =>
      have hm := first_mem hr
      have hlt : ∀ x ∈ offersL t r, openN l (nextC t l x now) < n := fun x hx => by
        have := open_next h.len hr (offer_ok h.tar (h.ride r hm) hm hx).1
        omega
      have hpos : ∀ x ∈ offersL t r, 0 ≤ (billT t (fun x => pay t l (nextC t l x now)) x).1 := fun x hx => by
        have := (pay_ok h n _ (hlt x hx)).1
        have := (price_bd h.tar x).1
        simp only [billT]
        omega
      obtain ⟨⟨x, hx, e⟩, _⟩ := foldP_best hpos (offers_ne h hm)
      rw [pay_some h hr, e]
      obtain ⟨p1, p2, p3, p4⟩ := pay_ok h n _ (hlt x hx)
      obtain ⟨o1, o2, o3⟩ := offer_ok h.tar (h.ride r hm) hm hx
      refine ⟨hpos x hx, ?_, ?_, ?_⟩
      · simp only [billT, sumT_append, sumT, p2]
        omega
      · intro y hy
        simp only [billT, List.mem_append, List.mem_singleton] at hy
        rcases hy with hy | hy
        · exact p3 y hy
        · subst hy
          exact ⟨o2, o3⟩
      · intro i s hi hc
        simp only [billT, paidB, List.any_append, Bool.or_eq_true]
        have hl := (List.getElem?_eq_some_iff.1 hi).1
        have hn := isC_next (t := t) (l := l) (x := x) (now := now) (i := i) (by have := h.len; omega)
        rw [hc, hi, Bool.false_or] at hn
        cases hcs : covB t x s with
        | true => right; simp [hcs]
        | false => left; exact p4 i s hi (by rw [hn]; exact hcs)
/-- In time. -/
def Sorted (l : List Rd) : Prop := ∀ (i j : Nat) (r s : Rd), i < j → l[i]? = some r → l[j]? = some s → r.day < s.day ∨ (r.day = s.day ∧ r.minute ≤ s.minute)
/-- The offer that is worth a ticket that covers a ride. -/
def asOffer (r : Rd) (x : Tk) : Tk := if x.kind = 0 then ⟨0, x.low, x.high, r.day, r.minute⟩ else if x.kind = 1 then ⟨1, x.low, x.high, r.day, 0⟩ else ⟨2, x.low, x.high, 0, 0⟩
theorem tkB_iff {t : Tar} {x : Tk} : tkB t x = true ↔ x.kind ≤ 2 ∧ (0 ≤ x.low ∧ x.low ≤ x.high ∧ x.high < t.zones) ∧ (if x.kind = 0 then (0 ≤ x.day ∧ x.day ≤ 6) ∧ (0 ≤ x.minute ∧ x.minute ≤ 1439) else x.minute = 0 ∧ (x.day = 0 ∨ (x.kind = 1 ∧ (0 ≤ x.day ∧ x.day ≤ 6)))) := by
  unfold tkB
  rw [← zonesB_iff]
  by_cases h0 : x.kind = 0
  · simp [h0, inB_iff, and_assoc]
  · simp [h0, inB_iff, and_assoc]
theorem covB_iff {t : Tar} {x : Tk} {r : Rd} : covB t x r = true ↔ (x.low ≤ r.low ∧ r.high ≤ x.high) ∧ (if x.kind = 0 then r.day = x.day ∧ (x.minute ≤ r.minute ∧ r.minute ≤ x.minute + t.window) else if x.kind = 1 then r.day = x.day else True) := by
  unfold covB
  by_cases h0 : x.kind = 0
  · simp [h0, inB_iff]
  · by_cases h1 : x.kind = 1
    · simp [h0, h1]
    · simp [h0, h1]
theorem asOffer_price {t : Tar} {r : Rd} {x : Tk} (hx : tkB t x = true) : priceT t (asOffer r x) = priceT t x := by
  obtain ⟨h, _⟩ := tkB_iff.1 hx
  unfold asOffer
  by_cases h0 : x.kind = 0
  · simp [h0, priceT, kindL]
  · by_cases h1 : x.kind = 1
    · simp [h0, h1, priceT, kindL]
    · simp [h0, h1, priceT, kindL]
theorem asOffer_mem {t : Tar} {r : Rd} {x : Tk} (hr : rideB t r = true) (hx : tkB t x = true) (hc : covB t x r = true) : asOffer r x ∈ offersL t r := by
  obtain ⟨_, _, z1, z2, z3⟩ := rideB_iff.1 hr
  obtain ⟨_, ⟨k1, k2, k3⟩, _⟩ := tkB_iff.1 hx
  obtain ⟨⟨c1, c2⟩, _⟩ := covB_iff.1 hc
  refine List.mem_flatMap.2 ⟨(x.low, x.high), (mem_wider z1).2 ⟨k1, c1, c2, k3⟩, ?_⟩
  unfold asOffer offersAt
  split
  · simp
  · split
    · simp
    · simp
theorem asOffer_cov {t : Tar} {r s : Rd} {x : Tk} (ho : r.day < s.day ∨ (r.day = s.day ∧ r.minute ≤ s.minute)) (hr : covB t x r = true) (hs : covB t x s = true) : covB t (asOffer r x) s = true := by
  rw [covB_iff] at hr hs ⊢
  obtain ⟨_, r2⟩ := hr
  obtain ⟨s1, s2⟩ := hs
  unfold asOffer
  by_cases h0 : x.kind = 0
  · simp only [h0, if_true] at r2 s2 ⊢
    exact ⟨s1, by omega, by omega, by omega⟩
  · by_cases h1 : x.kind = 1
    · simp only [h1, if_true] at r2 s2 ⊢
      rw [if_neg (by decide)] at r2 s2 ⊢
      exact ⟨s1, by simp; omega⟩
    · simp only [h0, h1, if_false]
      simpa using s1
theorem sumT_erase {t : Tar} {x : Tk} : ∀ {X : List Tk}, x ∈ X → sumT t X = priceT t x + sumT t (X.erase x)
  | [], h => by cases h
  | y :: X, h => by
    by_cases e : y = x
    · subst e; simp [sumT]
    · rcases List.mem_cons.1 h with h | h
      · exact absurd h.symm e
      · rw [List.erase_cons_tail (by simpa using e)]
        simp only [sumT, sumT_erase h]
        omega
theorem pay_least {t : Tar} {l : List Rd} (h : Rode t l) (hs : Sorted l) : ∀ (n : Nat) (now : List Bool) (X : List Tk), openN l now < n → (∀ x ∈ X, tkB t x = true) → PaysC t l now X → (pay t l now).1 ≤ sumT t X
  | 0, _, _, h1, _, _ => by omega
  | n + 1, now, X, h1, hX, hp => by
    cases hr : l[first l now]? with
    | none => rw [pay_none hr]; exact sumT_nonneg h.tar X
    | some r =>
      have hm := first_mem hr
      have hlt : ∀ x ∈ offersL t r, openN l (nextC t l x now) < n := fun x hx => by
        have := open_next h.len hr (offer_ok h.tar (h.ride r hm) hm hx).1
        omega
      have hpos : ∀ x ∈ offersL t r, 0 ≤ (billT t (fun x => pay t l (nextC t l x now)) x).1 := fun x hx => by
        have := (pay_ok h n _ (hlt x hx)).1
        have := (price_bd h.tar x).1
        simp only [billT]
        omega
      obtain ⟨_, hle⟩ := foldP_best hpos (offers_ne h hm)
      have hfl := (List.getElem?_eq_some_iff.1 hr).1
      obtain ⟨x, hx, hc⟩ := List.any_eq_true.1 (hp _ _ hr (first_not hfl))
      have ho := asOffer_mem (h.ride r hm) (hX x hx) hc
      rw [pay_some h hr]
      have h2 := hle _ ho
      have h3 := pay_least h hs n _ (X.erase x) (hlt _ ho) (fun y hy => hX y (List.mem_of_mem_erase hy)) (fun i s hi hcs => by
        have hl := (List.getElem?_eq_some_iff.1 hi).1
        have hn := isC_next (t := t) (l := l) (x := asOffer r x) (now := now) (i := i) (by have := h.len; omega)
        rw [hcs, hi] at hn
        simp only [Bool.false_eq, Bool.or_eq_false_iff] at hn
        obtain ⟨y, hy, hyc⟩ := List.any_eq_true.1 (hp i s hi hn.1)
        refine List.any_eq_true.2 ⟨y, ?_, hyc⟩
        refine (List.mem_erase_of_ne ?_).2 hy
        rintro rfl
        have hi2 : first l now ≤ i := Nat.not_lt.1 fun hlt => by
          rw [first_below hlt] at hn
          cases hn.1
        have hcov : covB t (asOffer r y) s = true := by
          rcases Nat.lt_or_eq_of_le hi2 with hi3 | hi3
          · exact asOffer_cov (hs _ _ _ _ hi3 hr hi) hc hyc
          · subst hi3
            rw [hr] at hi
            cases hi
            exact asOffer_cov (Or.inr ⟨rfl, by omega⟩) hc hyc
        rw [hn.2] at hcov
        cases hcov)
      have h4 : (billT t (fun x => pay t l (nextC t l x now)) (asOffer r x)).1 = priceT t x + (pay t l (nextC t l (asOffer r x) now)).1 := by
        simp only [billT]
        rw [asOffer_price (hX x hx)]
      have h5 := sumT_erase (t := t) hx
      omega
theorem isC_noneC (i : Nat) : isC noneC i = false := by
  unfold isC noneC
  rw [List.getElem?_replicate]
  split <;> rfl
/-- A number is the least price of tickets for rides. -/
def LeastT (t : Tar) (l : List Rd) (n : Int) : Prop := (∃ X, areTk t l X = true ∧ sumT t X = n) ∧ ∀ X, (∀ x ∈ X, tkB t x = true) → (∀ r ∈ l, paidB t X r = true) → n ≤ sumT t X
theorem areTk_iff {t : Tar} {l : List Rd} {X : List Tk} : areTk t l X = true ↔ (∀ x ∈ X, tkB t x = true ∧ startB l x = true) ∧ ∀ r ∈ l, paidB t X r = true := by
  simp [areTk]
theorem charge_are {t : Tar} {l : List Rd} (h : Rode t l) : areTk t l (chargeT t l).2 = true ∧ sumT t (chargeT t l).2 = (chargeT t l).1 ∧ 0 ≤ (chargeT t l).1 := by
  obtain ⟨h1, h2, h3, h4⟩ := pay_ok h 13 noneC (by have := openN_le l noneC; have := h.len; omega)
  refine ⟨areTk_iff.2 ⟨h3, fun r hr => ?_⟩, h2, h1⟩
  obtain ⟨i, hi⟩ := List.getElem?_of_mem hr
  exact h4 i r hi (isC_noneC i)
theorem charge_least {t : Tar} {l : List Rd} (h : Rode t l) (hs : Sorted l) : LeastT t l (chargeT t l).1 := by
  obtain ⟨h1, h2, h3⟩ := charge_are h
  refine ⟨⟨_, h1, h2⟩, fun X hX hp => ?_⟩
  exact pay_least h hs 13 noneC X (by have := openN_le l noneC; have := h.len; omega) hX fun i r hi _ => hp r (List.mem_of_getElem? hi)
end Go.Proofs.Ytmbkpfkkohpnkaa
