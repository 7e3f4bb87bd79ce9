import Derived.Test.YtmbkpfkkohpnkaaPb
set_option linter.unusedVariables false
set_option linter.unusedSimpArgs false
set_option linter.unnecessarySimpa false
namespace Go.Proofs.Ytmbkpfkkohpnkaa

/-! ### What the least price obeys: plain -/
theorem least_mono {t : Tar} {l m : List Rd} {a b : Int} (h1 : LeastT t l a) (h2 : LeastT t m b) (hs : ∀ r ∈ l, r ∈ m) : a ≤ b := by
  obtain ⟨⟨X, hX, rfl⟩, _⟩ := h2
  obtain ⟨x1, x2⟩ := areTk_iff.1 hX
  exact h1.2 X (fun x hx => (x1 x hx).1) fun r hr => x2 r (hs r hr)
theorem least_same {t : Tar} {l m : List Rd} {a b : Int} (h1 : LeastT t l a) (h2 : LeastT t m b) (hs : ∀ r, r ∈ l ↔ r ∈ m) : a = b := by
  have h3 := least_mono h1 h2 fun r hr => (hs r).1 hr
  have h4 := least_mono h2 h1 fun r hr => (hs r).2 hr
  omega
theorem paidB_append {t : Tar} {X Y : List Tk} {r : Rd} : paidB t (X ++ Y) r = (paidB t X r || paidB t Y r) := by
  simp [paidB]
theorem least_join {t : Tar} {l m x : List Rd} {a b c : Int} (h1 : LeastT t l a) (h2 : LeastT t m c) (h3 : LeastT t x b) (hs : ∀ r ∈ x, r ∈ l ∨ r ∈ m) : b ≤ a + c := by
  obtain ⟨⟨X, hX, rfl⟩, _⟩ := h1
  obtain ⟨⟨Y, hY, rfl⟩, _⟩ := h2
  obtain ⟨x1, x2⟩ := areTk_iff.1 hX
  obtain ⟨y1, y2⟩ := areTk_iff.1 hY
  rw [← sumT_append]
  refine h3.2 (X ++ Y) (fun z hz => ?_) fun r hr => ?_
  · rcases List.mem_append.1 hz with h | h
    · exact (x1 z h).1
    · exact (y1 z h).1
  · rw [paidB_append]
    rcases hs r hr with h | h
    · rw [x2 r h, Bool.true_or]
    · rw [y2 r h, Bool.or_true]
theorem least_nil {t : Tar} {n : Int} (ht : tarB t = true) (h : LeastT t [] n) : n = 0 := by
  obtain ⟨⟨X, _, rfl⟩, h2⟩ := h
  have h3 := h2 [] (by simp) (by simp)
  have := sumT_nonneg ht X
  simp only [sumT] at h3
  omega
theorem least_nonneg {t : Tar} {l : List Rd} {n : Int} (ht : tarB t = true) (h : LeastT t l n) : 0 ≤ n := by
  obtain ⟨⟨X, _, rfl⟩, _⟩ := h
  exact sumT_nonneg ht X
/-- Is no right list of tickets as cheap as less than the least? -/
theorem least_proof {t : Tar} {l : List Rd} {n : Int} {X : List Tk} (h : LeastT t l n) (hX : areTk t l X = true) : n ≤ sumT t X := by
  obtain ⟨x1, x2⟩ := areTk_iff.1 hX
  exact h.2 X (fun x hx => (x1 x hx).1) x2

/-! caps -/
theorem week_ok {t : Tar} (ht : tarB t = true) : tkB t ⟨2, 0, t.zones - 1, 0, 0⟩ = true := by
  have := tar_pos ht
  rw [tkB_iff]
  simp
  omega
theorem caps_week {t : Tar} {l : List Rd} {n : Int} (ht : tarB t = true) (hr : ∀ r ∈ l, rideB t r = true) (h : LeastT t l n) : n ≤ (t.weeks[(t.zones - 1).toNat]?).getD 0 := by
  have h1 := h.2 [⟨2, 0, t.zones - 1, 0, 0⟩] (by simp [week_ok ht]) fun r hm => by
    obtain ⟨_, _, z1, z2, z3⟩ := rideB_iff.1 (hr r hm)
    have : covB t ⟨2, 0, t.zones - 1, 0, 0⟩ r = true := by
      rw [covB_iff]
      simp
      omega
    simp [paidB, this]
  simpa [sumT, priceT, kindL] using h1
theorem sumT_map_const {t : Tar} {p : Int} {f : Int → Tk} (h : ∀ d, priceT t (f d) = p) : ∀ ds : List Int, sumT t (ds.map f) = (ds.length : Int) * p
  | [] => by simp [sumT]
  | d :: ds => by
    simp only [List.map_cons, sumT, h, sumT_map_const h ds, List.length_cons]
    rw [show ((ds.length + 1 : Nat) : Int) = (ds.length : Int) + 1 by omega, Int.add_mul]
    omega
theorem caps_days {t : Tar} {l : List Rd} {n : Int} (ht : tarB t = true) (hr : ∀ r ∈ l, rideB t r = true) (h : LeastT t l n) (ds : List Int) (hd : ∀ d ∈ ds, 0 ≤ d ∧ d ≤ 6) (hm : ∀ r ∈ l, r.day ∈ ds) :
    n ≤ (ds.length : Int) * (t.days[(t.zones - 1).toNat]?).getD 0 := by
  have hz := tar_pos ht
  have h1 := h.2 (ds.map fun d => ⟨1, 0, t.zones - 1, d, 0⟩) (fun x hx => by
    obtain ⟨d, hdm, rfl⟩ := List.mem_map.1 hx
    have := hd d hdm
    rw [tkB_iff]
    simp
    omega) fun r hrm => by
    obtain ⟨_, _, z1, z2, z3⟩ := rideB_iff.1 (hr r hrm)
    refine List.any_eq_true.2 ⟨⟨1, 0, t.zones - 1, r.day, 0⟩, List.mem_map.2 ⟨r.day, hm r hrm, rfl⟩, ?_⟩
    rw [covB_iff]
    simp
    omega
  rw [sumT_map_const (p := (t.days[(t.zones - 1).toNat]?).getD 0) (fun d => by simp [priceT, kindL])] at h1
  exact h1
def singleT (r : Rd) : Tk := ⟨0, r.low, r.high, r.day, r.minute⟩
theorem single_ok {t : Tar} {r : Rd} (hr : rideB t r = true) : tkB t (singleT r) = true := by
  obtain ⟨d, m, z1, z2, z3⟩ := rideB_iff.1 hr
  rw [tkB_iff]
  simp [singleT]
  omega
theorem single_cov {t : Tar} (ht : tarB t = true) (r : Rd) : covB t (singleT r) r = true := by
  have := tar_pos ht
  rw [covB_iff]
  simp [singleT]
  omega
theorem caps_singles {t : Tar} {l : List Rd} {n : Int} (ht : tarB t = true) (hr : ∀ r ∈ l, rideB t r = true) (h : LeastT t l n) : n ≤ sumT t (l.map singleT) := by
  refine h.2 _ (fun x hx => ?_) fun r hrm => ?_
  · obtain ⟨r, hrm, rfl⟩ := List.mem_map.1 hx
    exact single_ok (hr r hrm)
  · exact List.any_eq_true.2 ⟨singleT r, List.mem_map.2 ⟨r, hrm, rfl⟩, single_cov ht r⟩
/-! cheaper -/
theorem least_cheaper {t u : Tar} {l : List Rd} {a b : Int} (hz : u.zones = t.zones) (hw : t.window ≤ u.window) (hp : ∀ x, tkB t x = true → priceT u x ≤ priceT t x) (h1 : LeastT t l a) (h2 : LeastT u l b) : b ≤ a := by
  obtain ⟨⟨X, hX, rfl⟩, _⟩ := h1
  obtain ⟨x1, x2⟩ := areTk_iff.1 hX
  have hk : ∀ x, tkB t x = true → tkB u x = true := fun x hx => by
    rw [tkB_iff] at hx ⊢
    rw [hz]
    exact hx
  have hsum : ∀ Y : List Tk, (∀ x ∈ Y, tkB t x = true) → sumT u Y ≤ sumT t Y := by
    intro Y
    induction Y with
    | nil => intro _; simp [sumT]
    | cons y Y ih =>
      intro h
      have i1 := ih fun x hx => h x (List.mem_cons_of_mem _ hx)
      have i2 := hp y (h y List.mem_cons_self)
      simp only [sumT]
      omega
  refine Int.le_trans (h2.2 X (fun x hx => hk x (x1 x hx).1) fun r hr => ?_) (hsum X fun x hx => (x1 x hx).1)
  obtain ⟨x, hx, hc⟩ := List.any_eq_true.1 (x2 r hr)
  refine List.any_eq_true.2 ⟨x, hx, ?_⟩
  rw [covB_iff] at hc ⊢
  refine ⟨hc.1, ?_⟩
  have h3 := hc.2
  split
  · rename_i h0
    rw [if_pos h0] at h3
    omega
  · rename_i h0
    rw [if_neg h0] at h3
    exact h3
/-! later -/
def shiftR (d m : Int) (r : Rd) : Rd := ⟨r.day + d, r.minute + m, r.low, r.high⟩
def shiftK (d m : Int) (x : Tk) : Tk := if x.kind = 0 then ⟨0, x.low, x.high, x.day + d, x.minute + m⟩ else if x.kind = 1 then ⟨1, x.low, x.high, max 0 (min 6 (x.day + d)), 0⟩ else ⟨2, x.low, x.high, 0, 0⟩
theorem shiftK_0 {d m : Int} {x : Tk} (h : x.kind = 0) : shiftK d m x = ⟨0, x.low, x.high, x.day + d, x.minute + m⟩ := if_pos h
theorem shiftK_1 {d m : Int} {x : Tk} (h : x.kind = 1) : shiftK d m x = ⟨1, x.low, x.high, max 0 (min 6 (x.day + d)), 0⟩ := by
  unfold shiftK
  rw [if_neg (by omega), if_pos h]
theorem shiftK_2 {d m : Int} {x : Tk} (h0 : x.kind ≠ 0) (h1 : x.kind ≠ 1) : shiftK d m x = ⟨2, x.low, x.high, 0, 0⟩ := by
  unfold shiftK
  rw [if_neg h0, if_neg h1]
theorem shiftK_price {t : Tar} {d m : Int} {x : Tk} (hx : tkB t x = true) : priceT t (shiftK d m x) = priceT t x := by
  obtain ⟨h, _⟩ := tkB_iff.1 hx
  unfold shiftK
  by_cases h0 : x.kind = 0
  · simp [h0, priceT, kindL]
  · by_cases h1 : x.kind = 1
    · simp [h0, h1, priceT, kindL]
    · simp [h0, h1, priceT, kindL]
theorem sumT_map {t : Tar} {f : Tk → Tk} : ∀ {X : List Tk}, (∀ x ∈ X, priceT t (f x) = priceT t x) → sumT t (X.map f) = sumT t X
  | [], _ => rfl
  | x :: X, h => by simp only [List.map_cons, sumT, h x List.mem_cons_self, sumT_map fun y hy => h y (List.mem_cons_of_mem _ hy)]
/-- One direction: each ride of m is a shifted one of l; each one of l, shifted, is one. -/
theorem later_le {t : Tar} {l m : List Rd} {d e a b : Int} (hl : ∀ r ∈ l, rideB t r = true) (hm : ∀ r ∈ m, rideB t r = true) (h1 : ∀ r ∈ l, shiftR d e r ∈ m) (h2 : ∀ r ∈ m, ∃ s ∈ l, shiftR d e s = r)
    (ha : LeastT t l a) (hb : LeastT t m b) : b ≤ a := by
  obtain ⟨⟨X, hX, rfl⟩, _⟩ := ha
  obtain ⟨x1, x2⟩ := areTk_iff.1 hX
  rw [← sumT_map (f := shiftK d e) fun x hx => shiftK_price (x1 x hx).1]
  refine hb.2 _ (fun y hy => ?_) fun r hr => ?_
  · obtain ⟨x, hx, rfl⟩ := List.mem_map.1 hy
    obtain ⟨k1, k2⟩ := x1 x hx
    obtain ⟨q1, q2, q3⟩ := tkB_iff.1 k1
    rw [tkB_iff]
    by_cases h0 : x.kind = 0
    · rw [shiftK_0 h0]
      simp only [startB, h0, ne_eq, not_true_eq_false, decide_false, Bool.false_or, List.any_eq_true, Bool.and_eq_true, decide_eq_true_eq] at k2
      obtain ⟨s, hs, e1, e2⟩ := k2
      obtain ⟨v1, v2, _⟩ := rideB_iff.1 (hm _ (h1 s hs))
      simp only [shiftR] at v1 v2
      simp only [if_true]
      exact ⟨by omega, q2, by omega, by omega⟩
    · by_cases h1 : x.kind = 1
      · rw [shiftK_1 h1]
        refine ⟨by simp, q2, ?_⟩
        rw [if_neg (by simp)]
        refine ⟨rfl, Or.inr ⟨rfl, ?_⟩⟩
        simp only
        omega
      · rw [shiftK_2 h0 h1]
        refine ⟨by simp, q2, ?_⟩
        rw [if_neg (by simp)]
        exact ⟨rfl, Or.inl rfl⟩
  · obtain ⟨s, hs, rfl⟩ := h2 r hr
    obtain ⟨x, hx, hc⟩ := List.any_eq_true.1 (x2 s hs)
    obtain ⟨v1, _⟩ := rideB_iff.1 (hm _ hr)
    simp only [shiftR] at v1
    refine List.any_eq_true.2 ⟨_, List.mem_map.2 ⟨x, hx, rfl⟩, ?_⟩
    rw [covB_iff] at hc ⊢
    obtain ⟨c1, c2⟩ := hc
    by_cases h0 : x.kind = 0
    · rw [shiftK_0 h0]
      rw [if_pos h0] at c2
      simp only [if_true, shiftR]
      exact ⟨c1, by omega, by omega, by omega⟩
    · by_cases h1 : x.kind = 1
      · rw [shiftK_1 h1]
        rw [if_neg h0, if_pos h1] at c2
        simp only [shiftR]
        refine ⟨c1, ?_⟩
        rw [if_neg (by simp), if_pos trivial]
        omega
      · rw [shiftK_2 h0 h1]
        simp only [shiftR]
        exact ⟨c1, by simp⟩
theorem later_same {t : Tar} {l : List Rd} {d e a b : Int} (hl : ∀ r ∈ l, rideB t r = true) (hm : ∀ r ∈ l.map (shiftR d e), rideB t r = true) (ha : LeastT t l a) (hb : LeastT t (l.map (shiftR d e)) b) : a = b := by
  have h1 := later_le hl hm (d := d) (e := e) (fun r hr => List.mem_map.2 ⟨r, hr, rfl⟩) (fun r hr => List.mem_map.1 hr) ha hb
  have h2 := later_le (d := -d) (e := -e) hm hl (fun r hr => by
    obtain ⟨s, hs, rfl⟩ := List.mem_map.1 hr
    have : shiftR (-d) (-e) (shiftR d e s) = s := by
      unfold shiftR
      cases s
      simp
      omega
    rw [this]
    exact hs) (fun r hr => ⟨shiftR d e r, List.mem_map.2 ⟨r, hr, rfl⟩, by
      unfold shiftR
      cases r
      simp
      omega⟩) hb ha
  omega
/-! days -/
def onDay (l : List Rd) (d : Int) : List Rd := l.filter fun r => decide (r.day = d)
theorem mem_onDay {l : List Rd} {d : Int} {r : Rd} : r ∈ onDay l d ↔ r ∈ l ∧ r.day = d := by simp [onDay]
def sumI : List Int → Int
  | [] => 0
  | x :: l => x + sumI l
def sevenD : List Int := [0, 1, 2, 3, 4, 5, 6]
theorem days_le {t : Tar} {l : List Rd} {n : Int} (c : Int → Int) : ∀ (ds : List Int), (∀ d ∈ ds, LeastT t (onDay l d) (c d)) → ∃ X, (∀ x ∈ X, tkB t x = true) ∧ (∀ r ∈ l, r.day ∈ ds → paidB t X r = true) ∧ sumT t X = sumI (ds.map c)
  | [], _ => ⟨[], by simp, by simp, rfl⟩
  | d :: ds, h => by
    obtain ⟨Y, y1, y2, y3⟩ := days_le (n := n) c ds fun e he => h e (List.mem_cons_of_mem _ he)
    obtain ⟨⟨X, hX, hs⟩, _⟩ := h d List.mem_cons_self
    obtain ⟨x1, x2⟩ := areTk_iff.1 hX
    refine ⟨X ++ Y, fun z hz => ?_, fun r hr hd => ?_, ?_⟩
    · rcases List.mem_append.1 hz with h | h
      · exact (x1 z h).1
      · exact y1 z h
    · rw [paidB_append]
      rcases List.mem_cons.1 hd with h | h
      · rw [x2 r (mem_onDay.2 ⟨hr, h⟩), Bool.true_or]
      · rw [y2 r hr h, Bool.or_true]
    · rw [sumT_append, hs, y3]
      rfl
theorem seven_mem {d : Int} (h0 : 0 ≤ d) (h1 : d ≤ 6) : d ∈ sevenD := by
  have : d = 0 ∨ d = 1 ∨ d = 2 ∨ d = 3 ∨ d = 4 ∨ d = 5 ∨ d = 6 := by omega
  simpa [sevenD] using this
theorem days_sum {t : Tar} {l : List Rd} {n : Int} (hr : ∀ r ∈ l, rideB t r = true) (c : Int → Int) (hc : ∀ d ∈ sevenD, LeastT t (onDay l d) (c d)) (h : LeastT t l n) : n ≤ sumI (sevenD.map c) := by
  obtain ⟨X, x1, x2, x3⟩ := days_le (n := n) c sevenD hc
  rw [← x3]
  refine h.2 X x1 fun r hm => x2 r hm ?_
  obtain ⟨⟨d1, d2⟩, _⟩ := rideB_iff.1 (hr r hm)
  exact seven_mem d1 d2
theorem price_in_sum {t : Tar} (ht : tarB t = true) {x : Tk} {X : List Tk} (hx : x ∈ X) : priceT t x ≤ sumT t X := by
  rw [sumT_erase hx]
  have := sumT_nonneg ht (X.erase x)
  omega
/-- The tickets of some days cost at most all. -/
theorem sum_days {t : Tar} (ht : tarB t = true) : ∀ X : List Tk, sumI (sevenD.map fun d => sumT t (X.filter fun x => decide (x.day = d))) ≤ sumT t X
  | [] => by simp [sevenD, sumI, sumT]
  | x :: X => by
    have ih := sum_days ht X
    have hp := (price_bd ht x).1
    have hf : ∀ d : Int, sumT t ((x :: X).filter fun y => decide (y.day = d)) = (if x.day = d then priceT t x else 0) + sumT t (X.filter fun y => decide (y.day = d)) := fun d => by
      by_cases e : x.day = d
      · rw [List.filter_cons_of_pos (by simpa using e), if_pos e]
        rfl
      · rw [List.filter_cons_of_neg (by simpa using e), if_neg e]
        omega
    simp only [sevenD, List.map_cons, List.map_nil, sumI, hf, sumT] at ih ⊢
    repeat' split
    all_goals omega
theorem days_dear {t : Tar} {l : List Rd} {n : Int} (ht : tarB t = true) (hr : ∀ r ∈ l, rideB t r = true) (c : Int → Int) (hc : ∀ d ∈ sevenD, LeastT t (onDay l d) (c d)) (h : LeastT t l n)
    (hw : ∀ x ∈ t.weeks, sumI (sevenD.map c) ≤ x) : n = sumI (sevenD.map c) := by
  have hle := days_sum hr c hc h
  obtain ⟨⟨X, hX, hs⟩, _⟩ := h
  obtain ⟨x1, x2⟩ := areTk_iff.1 hX
  by_cases hk : ∃ x ∈ X, x.kind = 2
  · obtain ⟨x, hx, hk⟩ := hk
    have h1 := price_in_sum ht hx
    obtain ⟨_, ⟨z1, z2, z3⟩, _⟩ := tkB_iff.1 (x1 x hx).1
    have hlen := (kindL_ok ht x.kind).1
    have hi : (x.high - x.low).toNat < (kindL t x.kind).length := by omega
    have hp : priceT t x = (kindL t x.kind)[(x.high - x.low).toNat] := by
      unfold priceT
      rw [List.getElem?_eq_getElem hi]
      rfl
    have hm : priceT t x ∈ t.weeks := by
      have : priceT t x ∈ kindL t x.kind := by rw [hp]; exact List.getElem_mem hi
      have e : kindL t x.kind = t.weeks := by unfold kindL; rw [if_neg (by omega), if_neg (by omega)]
      rwa [e] at this
    have := hw _ hm
    omega
  · have hd : ∀ d ∈ sevenD, c d ≤ sumT t (X.filter fun x => decide (x.day = d)) := fun d hd => by
      refine (hc d hd).2 _ (fun x hx => (x1 x ((List.mem_filter.1 hx).1)).1) fun r hrm => ?_
      obtain ⟨r1, r2⟩ := mem_onDay.1 hrm
      obtain ⟨x, hx, hcov⟩ := List.any_eq_true.1 (x2 r r1)
      refine List.any_eq_true.2 ⟨x, List.mem_filter.2 ⟨hx, ?_⟩, hcov⟩
      have hk2 := (tkB_iff.1 (x1 x hx).1).1
      have hk3 : x.kind ≠ 2 := fun e => hk ⟨x, hx, e⟩
      have h2 := (covB_iff.1 hcov).2
      simp only [decide_eq_true_eq]
      by_cases h0 : x.kind = 0
      · rw [if_pos h0] at h2; omega
      · rw [if_neg h0, if_pos (by omega)] at h2; omega
    have h2 := sum_days ht X
    simp only [sevenD, List.map_cons, List.map_nil, sumI, List.mem_cons, forall_eq_or_imp] at hd h2 hle ⊢
    omega
end Go.Proofs.Ytmbkpfkkohpnkaa
