import Derived.Test.YtmbkpfkkohpnkaaPc
set_option linter.unusedVariables false
set_option linter.unusedSimpArgs false
set_option linter.unnecessarySimpa false
namespace Go.Proofs.Ytmbkpfkkohpnkaa

/-! ### The least price by partitions: plain -/
def leastP : List Int → Int → Int
  | [], b => b
  | n :: l, b => leastP l (if b < 0 ∨ n < b then n else b)
theorem leastP_append : ∀ (l m : List Int) (b : Int), leastP (l ++ m) b = leastP m (leastP l b)
  | [], m, b => rfl
  | n :: l, m, b => by simp only [List.cons_append, leastP, leastP_append l m]
theorem leastP_at : ∀ {l : List Int} {b : Int}, (∀ x ∈ l, 0 ≤ x) → 0 ≤ b → (leastP l b = b ∨ leastP l b ∈ l) ∧ leastP l b ≤ b ∧ (∀ x ∈ l, leastP l b ≤ x) ∧ 0 ≤ leastP l b
  | [], b, _, hb => by simp [leastP, hb]
  | n :: l, b, h, hb => by
    have hn := h n List.mem_cons_self
    have hl : ∀ x ∈ l, 0 ≤ x := fun x hx => h x (List.mem_cons_of_mem _ hx)
    simp only [leastP]
    by_cases hc : n < b
    · rw [if_pos (Or.inr hc)]
      obtain ⟨h1, h2, h3, h4⟩ := leastP_at (b := n) hl hn
      refine ⟨Or.inr ?_, by omega, ?_, h4⟩
      · rcases h1 with h1 | h1
        · rw [h1]; exact List.mem_cons_self
        · exact List.mem_cons_of_mem _ h1
      · intro x hx
        rcases List.mem_cons.1 hx with e | hx
        · subst e; exact h2
        · exact h3 x hx
    · rw [if_neg (by omega)]
      obtain ⟨h1, h2, h3, h4⟩ := leastP_at (b := b) hl hb
      refine ⟨?_, h2, ?_, h4⟩
      · rcases h1 with h1 | h1
        · exact Or.inl h1
        · exact Or.inr (List.mem_cons_of_mem _ h1)
      · intro x hx
        rcases List.mem_cons.1 hx with e | hx
        · subst e; omega
        · exact h3 x hx
theorem leastP_best {l : List Int} (h : ∀ x ∈ l, 0 ≤ x) (hne : l ≠ []) : leastP l (-1) ∈ l ∧ ∀ x ∈ l, leastP l (-1) ≤ x := by
  cases l with
  | nil => exact absurd rfl hne
  | cons n l =>
    have hn := h n List.mem_cons_self
    simp only [leastP]
    rw [if_pos (Or.inl (by decide))]
    obtain ⟨h1, h2, h3, h4⟩ := leastP_at (b := n) (fun x hx => h x (List.mem_cons_of_mem _ hx)) hn
    refine ⟨?_, fun x hx => ?_⟩
    · rcases h1 with h1 | h1
      · rw [h1]; exact List.mem_cons_self
      · exact List.mem_cons_of_mem _ h1
    · rcases List.mem_cons.1 hx with e | hx
      · subst e; exact h2
      · exact h3 x hx
/-- The price of one ticket of a kind for a range of zones. -/
def zoneP (t : Tar) (k : Nat) (p : Int × Int) : Int := ((kindL t k)[(p.2 - p.1).toNat]?).getD 0
theorem zoneP_price (t : Tar) (k : Nat) (a b d m : Int) : priceT t ⟨k, a, b, d, m⟩ = zoneP t k (a, b) := rfl
def leastK (t : Tar) (k : Nat) (lo hi : Int) : Int := leastP ((widerL t lo hi).map (zoneP t k)) (-1)
theorem leastK_best {t : Tar} (ht : tarB t = true) {k : Nat} {lo hi : Int} (h0 : 0 ≤ lo) (h1 : lo ≤ hi) (h2 : hi < t.zones) :
    (∃ a b, (0 ≤ a ∧ a ≤ lo ∧ hi ≤ b ∧ b < t.zones) ∧ leastK t k lo hi = zoneP t k (a, b)) ∧ ∀ a b, (0 ≤ a ∧ a ≤ lo ∧ hi ≤ b ∧ b < t.zones) → leastK t k lo hi ≤ zoneP t k (a, b) := by
  have hne : (widerL t lo hi).map (zoneP t k) ≠ [] := fun e => by
    have hm : (lo, hi) ∈ widerL t lo hi := (mem_wider h0).2 ⟨h0, by simp, by simp, h2⟩
    rw [List.map_eq_nil_iff.1 e] at hm
    cases hm
  obtain ⟨h3, h4⟩ := leastP_best (l := (widerL t lo hi).map (zoneP t k)) (fun x hx => by
    obtain ⟨p, _, rfl⟩ := List.mem_map.1 hx
    exact (price_bd ht ⟨k, p.1, p.2, 0, 0⟩).1) hne
  refine ⟨?_, fun a b hab => h4 _ (List.mem_map.2 ⟨(a, b), (mem_wider h0).2 hab, rfl⟩)⟩
  obtain ⟨⟨a, b⟩, hp, e⟩ := List.mem_map.1 h3
  exact ⟨a, b, (mem_wider h0).1 hp, e.symm⟩
/-- What some rides span. -/
structure St where
  low : Int
  high : Int
  fst : Int
  lst : Int
  same : Bool
def stAdd (d : Int) (s : St) (r : Rd) : St := ⟨min s.low r.low, max s.high r.high, min s.fst r.minute, max s.lst r.minute, s.same && decide (r.day = d)⟩
def stL (r : Rd) (l : List Rd) : St := l.foldl (stAdd r.day) ⟨r.low, r.high, r.minute, r.minute, true⟩
def stP (t : Tar) (s : St) : Int :=
  let a := leastK t 2 s.low s.high
  let b := if s.same then min a (leastK t 1 s.low s.high) else a
  if s.same && decide (s.lst - s.fst ≤ t.window) then min b (leastK t 0 s.low s.high) else b
def oneT (t : Tar) : List Rd → Int
  | [] => 0
  | r :: l => stP t (stL r l)
/-- Right about some rides. -/
structure StOk (d : Int) (g : List Rd) (s : St) : Prop where
  low : ∀ r ∈ g, s.low ≤ r.low
  high : ∀ r ∈ g, r.high ≤ s.high
  fst : ∀ r ∈ g, s.fst ≤ r.minute
  lst : ∀ r ∈ g, r.minute ≤ s.lst
  hlow : ∃ r ∈ g, r.low = s.low
  hhigh : ∃ r ∈ g, r.high = s.high
  hfst : ∃ r ∈ g, r.minute = s.fst
  hlst : ∃ r ∈ g, r.minute = s.lst
  same : s.same = true ↔ ∀ r ∈ g, r.day = d
theorem stAdd_ok {d : Int} {g : List Rd} {s : St} (h : StOk d g s) (r : Rd) : StOk d (g ++ [r]) (stAdd d s r) := by
  have pick : ∀ {p : Rd → Prop}, (∃ x ∈ g, p x) → ∃ x ∈ g ++ [r], p x := fun ⟨x, hx, hp⟩ => ⟨x, List.mem_append_left _ hx, hp⟩
  have new : ∀ {p : Rd → Prop}, p r → ∃ x ∈ g ++ [r], p x := fun hp => ⟨r, by simp, hp⟩
  constructor
  · intro x hx
    simp only [stAdd]
    rcases List.mem_append.1 hx with hx | hx
    · have := h.low x hx; omega
    · simp only [List.mem_singleton] at hx; subst hx; omega
  · intro x hx
    simp only [stAdd]
    rcases List.mem_append.1 hx with hx | hx
    · have := h.high x hx; omega
    · simp only [List.mem_singleton] at hx; subst hx; omega
  · intro x hx
    simp only [stAdd]
    rcases List.mem_append.1 hx with hx | hx
    · have := h.fst x hx; omega
    · simp only [List.mem_singleton] at hx; subst hx; omega
  · intro x hx
    simp only [stAdd]
    rcases List.mem_append.1 hx with hx | hx
    · have := h.lst x hx; omega
    · simp only [List.mem_singleton] at hx; subst hx; omega
  · simp only [stAdd]
    by_cases hc : s.low ≤ r.low
    · rw [show min s.low r.low = s.low by omega]; exact pick h.hlow
    · rw [show min s.low r.low = r.low by omega]; exact new rfl
  · simp only [stAdd]
    by_cases hc : r.high ≤ s.high
    · rw [show max s.high r.high = s.high by omega]; exact pick h.hhigh
    · rw [show max s.high r.high = r.high by omega]; exact new rfl
  · simp only [stAdd]
    by_cases hc : s.fst ≤ r.minute
    · rw [show min s.fst r.minute = s.fst by omega]; exact pick h.hfst
    · rw [show min s.fst r.minute = r.minute by omega]; exact new rfl
  · simp only [stAdd]
    by_cases hc : r.minute ≤ s.lst
    · rw [show max s.lst r.minute = s.lst by omega]; exact pick h.hlst
    · rw [show max s.lst r.minute = r.minute by omega]; exact new rfl
  · simp only [stAdd, Bool.and_eq_true, decide_eq_true_eq, h.same, List.mem_append, List.mem_singleton]
    constructor
    · rintro ⟨h1, h2⟩ x (hx | rfl)
      · exact h1 x hx
      · exact h2
    · intro h1
      exact ⟨fun x hx => h1 x (Or.inl hx), h1 r (Or.inr rfl)⟩
theorem stFold_ok {d : Int} : ∀ {l g : List Rd} {s : St}, StOk d g s → StOk d (g ++ l) (l.foldl (stAdd d) s)
  | [], g, s, h => by simpa using h
  | r :: l, g, s, h => by
    have := stFold_ok (l := l) (stAdd_ok h r)
    simpa using this
theorem stL_ok (r : Rd) (l : List Rd) : StOk r.day (r :: l) (stL r l) := by
  have h : StOk r.day [r] ⟨r.low, r.high, r.minute, r.minute, true⟩ := by
    constructor <;> simp
  exact stFold_ok h
theorem one_some {t : Tar} (ht : tarB t = true) {g : List Rd} (hne : g ≠ []) (hr : ∀ r ∈ g, rideB t r = true) : ∃ x, tkB t x = true ∧ (∀ r ∈ g, covB t x r = true) ∧ priceT t x = oneT t g := by
  cases g with
  | nil => exact absurd rfl hne
  | cons r l =>
    have hs := stL_ok r l
    simp only [oneT]
    generalize hg : r :: l = g at *
    have hrg : r ∈ g := by rw [← hg]; exact List.mem_cons_self
    generalize stL r l = s at *
    have hz : 0 ≤ s.low ∧ s.low ≤ s.high ∧ s.high < t.zones := by
      obtain ⟨a, ha, e1⟩ := hs.hlow
      obtain ⟨b, hb, e2⟩ := hs.hhigh
      obtain ⟨_, _, a1, a2, a3⟩ := rideB_iff.1 (hr a ha)
      obtain ⟨_, _, b1, b2, b3⟩ := rideB_iff.1 (hr b hb)
      have := hs.high a ha
      omega
    obtain ⟨z1, z2, z3⟩ := hz
    have hw := tar_pos ht
    have k2 : ∃ x, tkB t x = true ∧ (∀ r ∈ g, covB t x r = true) ∧ priceT t x = leastK t 2 s.low s.high := by
      obtain ⟨⟨a, b, ⟨h1, h2, h3, h4⟩, e⟩, _⟩ := leastK_best ht (k := 2) z1 z2 z3
      refine ⟨⟨2, a, b, 0, 0⟩, by rw [tkB_iff]; simp; omega, fun x hx => ?_, e.symm⟩
      have := hs.low x hx
      have := hs.high x hx
      rw [covB_iff]; simp; omega
    have k1 : s.same = true → ∃ x, tkB t x = true ∧ (∀ r ∈ g, covB t x r = true) ∧ priceT t x = leastK t 1 s.low s.high := fun hsm => by
      obtain ⟨⟨a, b, ⟨h1, h2, h3, h4⟩, e⟩, _⟩ := leastK_best ht (k := 1) z1 z2 z3
      obtain ⟨⟨d1, d2⟩, _⟩ := rideB_iff.1 (hr r hrg)
      refine ⟨⟨1, a, b, r.day, 0⟩, by rw [tkB_iff]; simp; omega, fun x hx => ?_, e.symm⟩
      have := hs.low x hx
      have := hs.high x hx
      have := hs.same.1 hsm x hx
      rw [covB_iff]; simp; omega
    have k0 : s.same = true → s.lst - s.fst ≤ t.window → ∃ x, tkB t x = true ∧ (∀ r ∈ g, covB t x r = true) ∧ priceT t x = leastK t 0 s.low s.high := fun hsm hwn => by
      obtain ⟨⟨a, b, ⟨h1, h2, h3, h4⟩, e⟩, _⟩ := leastK_best ht (k := 0) z1 z2 z3
      obtain ⟨⟨d1, d2⟩, _⟩ := rideB_iff.1 (hr r hrg)
      obtain ⟨f, hf, ef⟩ := hs.hfst
      obtain ⟨_, ⟨f1, f2⟩, _⟩ := rideB_iff.1 (hr f hf)
      refine ⟨⟨0, a, b, r.day, s.fst⟩, by rw [tkB_iff]; simp; omega, fun x hx => ?_, e.symm⟩
      have := hs.low x hx
      have := hs.high x hx
      have := hs.fst x hx
      have := hs.lst x hx
      have := hs.same.1 hsm x hx
      rw [covB_iff]; simp; omega
    have kb : ∃ x, tkB t x = true ∧ (∀ r ∈ g, covB t x r = true) ∧ priceT t x = (if s.same = true then min (leastK t 2 s.low s.high) (leastK t 1 s.low s.high) else leastK t 2 s.low s.high) := by
      split
      · rename_i hsm
        by_cases hc : leastK t 2 s.low s.high ≤ leastK t 1 s.low s.high
        · rw [Int.min_eq_left hc]; exact k2
        · rw [Int.min_eq_right (by omega)]; exact k1 hsm
      · exact k2
    unfold stP
    simp only
    generalize (if s.same = true then min (leastK t 2 s.low s.high) (leastK t 1 s.low s.high) else leastK t 2 s.low s.high) = B at *
    split
    · rename_i hc
      simp only [Bool.and_eq_true, decide_eq_true_eq] at hc
      by_cases hb : B ≤ leastK t 0 s.low s.high
      · rw [Int.min_eq_left hb]; exact kb
      · rw [Int.min_eq_right (by omega)]; exact k0 hc.1 hc.2
    · exact kb
theorem one_le {t : Tar} (ht : tarB t = true) {g : List Rd} (hne : g ≠ []) (hr : ∀ r ∈ g, rideB t r = true) {x : Tk} (hx : tkB t x = true) (hc : ∀ r ∈ g, covB t x r = true) : oneT t g ≤ priceT t x := by
  cases g with
  | nil => exact absurd rfl hne
  | cons r l =>
    have hs := stL_ok r l
    simp only [oneT]
    generalize hg : r :: l = g at *
    have hrg : r ∈ g := by rw [← hg]; exact List.mem_cons_self
    generalize stL r l = s at *
    have hz : (0 ≤ s.low ∧ s.low ≤ s.high ∧ s.high < t.zones) ∧ x.low ≤ s.low ∧ s.high ≤ x.high := by
      obtain ⟨a, ha, e1⟩ := hs.hlow
      obtain ⟨b, hb, e2⟩ := hs.hhigh
      obtain ⟨_, _, a1, a2, a3⟩ := rideB_iff.1 (hr a ha)
      obtain ⟨_, _, b1, b2, b3⟩ := rideB_iff.1 (hr b hb)
      obtain ⟨c1, _⟩ := covB_iff.1 (hc a ha)
      obtain ⟨c2, _⟩ := covB_iff.1 (hc b hb)
      have := hs.high a ha
      omega
    obtain ⟨⟨z1, z2, z3⟩, z4, z5⟩ := hz
    obtain ⟨q1, q2, q3⟩ := tkB_iff.1 hx
    have hk : ∀ k, x.kind = k → leastK t k s.low s.high ≤ priceT t x := fun k e => by
      have h := (leastK_best ht (k := k) z1 z2 z3).2 x.low x.high ⟨q2.1, z4, z5, q2.2.2⟩
      have : priceT t x = zoneP t k (x.low, x.high) := by rw [← e]; rfl
      omega
    have hsame : x.kind ≠ 2 → s.same = true := fun h2 => hs.same.2 fun y hy => by
      have h3 := (covB_iff.1 (hc y hy)).2
      have h4 := (covB_iff.1 (hc r hrg)).2
      by_cases h0 : x.kind = 0
      · rw [if_pos h0] at h3 h4; omega
      · rw [if_neg h0, if_pos (by omega)] at h3 h4; omega
    have hwin : x.kind = 0 → s.lst - s.fst ≤ t.window := fun h0 => by
      obtain ⟨a, ha, e1⟩ := hs.hfst
      obtain ⟨b, hb, e2⟩ := hs.hlst
      have h3 := (covB_iff.1 (hc a ha)).2
      have h4 := (covB_iff.1 (hc b hb)).2
      rw [if_pos h0] at h3 h4
      omega
    unfold stP
    simp only
    by_cases h2 : x.kind = 2
    · have := hk 2 h2
      split <;> split <;> omega
    · have hsm := hsame h2
      by_cases h1 : x.kind = 1
      · have := hk 1 h1
        rw [if_pos hsm]
        split <;> omega
      · have h0 : x.kind = 0 := by omega
        have := hk 0 h0
        rw [if_pos (by simp [hsm, hwin h0])]
        omega
/-- The least price of all partitions. -/
def chargeR (t : Tar) : List Rd → List (List Rd) → Int
  | [], gs => sumI (gs.map (oneT t))
  | r :: rs, gs => ((List.range gs.length).map fun i => chargeR t rs (gs.set i (gs[i]?.getD [] ++ [r]))).foldl min (chargeR t rs (gs ++ [[r]]))
theorem foldmin : ∀ (l : List Int) (b : Int), (l.foldl min b = b ∨ l.foldl min b ∈ l) ∧ l.foldl min b ≤ b ∧ ∀ x ∈ l, l.foldl min b ≤ x
  | [], b => by simp
  | x :: l, b => by
    obtain ⟨h1, h2, h3⟩ := foldmin l (min b x)
    simp only [List.foldl_cons]
    refine ⟨?_, by omega, ?_⟩
    · rcases h1 with h1 | h1
      · by_cases hc : b ≤ x
        · left; rw [h1]; omega
        · right; rw [h1, Int.min_eq_right (by omega)]; exact List.mem_cons_self
      · right; exact List.mem_cons_of_mem _ h1
    · intro y hy
      rcases List.mem_cons.1 hy with e | hy
      · subst e; omega
      · exact h3 y hy
def GsOk (t : Tar) (gs : List (List Rd)) : Prop := ∀ g ∈ gs, g ≠ [] ∧ ∀ r ∈ g, rideB t r = true
theorem GsOk.new {t : Tar} {gs : List (List Rd)} {r : Rd} (h : GsOk t gs) (hr : rideB t r = true) : GsOk t (gs ++ [[r]]) := fun g hg => by
  rcases List.mem_append.1 hg with hg | hg
  · exact h g hg
  · simp only [List.mem_singleton] at hg
    subst hg
    simp [hr]
theorem GsOk.set {t : Tar} {gs : List (List Rd)} {r : Rd} {i : Nat} (h : GsOk t gs) (hr : rideB t r = true) (hi : i < gs.length) : GsOk t (gs.set i (gs[i]?.getD [] ++ [r])) := fun g hg => by
  rcases List.mem_or_eq_of_mem_set hg with hg | hg
  · exact h g hg
  · subst hg
    rw [List.getElem?_eq_getElem hi]
    obtain ⟨h1, h2⟩ := h gs[i] (List.getElem_mem hi)
    refine ⟨by simp, fun s hs => ?_⟩
    rcases List.mem_append.1 hs with hs | hs
    · exact h2 s hs
    · simp only [List.mem_singleton] at hs
      subst hs
      exact hr
theorem groups_some {t : Tar} (ht : tarB t = true) : ∀ {gs : List (List Rd)}, GsOk t gs → ∃ X, (∀ x ∈ X, tkB t x = true) ∧ (∀ g ∈ gs, ∀ r ∈ g, paidB t X r = true) ∧ sumT t X = sumI (gs.map (oneT t))
  | [], _ => ⟨[], by simp, by simp, rfl⟩
  | g :: gs, h => by
    obtain ⟨g1, g2⟩ := h g List.mem_cons_self
    obtain ⟨x, x1, x2, x3⟩ := one_some ht g1 g2
    obtain ⟨X, X1, X2, X3⟩ := groups_some ht (gs := gs) fun m hm => h m (List.mem_cons_of_mem _ hm)
    refine ⟨x :: X, fun y hy => ?_, fun m hm r hr => ?_, ?_⟩
    · rcases List.mem_cons.1 hy with e | hy
      · subst e; exact x1
      · exact X1 y hy
    · rcases List.mem_cons.1 hm with e | hm
      · subst e
        simp [paidB, x2 r hr]
      · have := X2 m hm r hr
        simp only [paidB, List.any_cons, Bool.or_eq_true] at this ⊢
        exact Or.inr this
    · simp only [sumT, List.map_cons, sumI, x3, X3]
theorem chargeR_some {t : Tar} (ht : tarB t = true) : ∀ {rs : List Rd} {gs : List (List Rd)}, (∀ r ∈ rs, rideB t r = true) → GsOk t gs →
    ∃ X, (∀ x ∈ X, tkB t x = true) ∧ (∀ r ∈ rs, paidB t X r = true) ∧ (∀ g ∈ gs, ∀ r ∈ g, paidB t X r = true) ∧ sumT t X = chargeR t rs gs
  | [], gs, _, hg => by
    obtain ⟨X, x1, x2, x3⟩ := groups_some ht hg
    exact ⟨X, x1, by simp, x2, x3⟩
  | r :: rs, gs, hr, hg => by
    have hr1 := hr r List.mem_cons_self
    have hrs : ∀ s ∈ rs, rideB t s = true := fun s hs => hr s (List.mem_cons_of_mem _ hs)
    unfold chargeR
    obtain ⟨h1, _, _⟩ := foldmin ((List.range gs.length).map fun i => chargeR t rs (gs.set i (gs[i]?.getD [] ++ [r]))) (chargeR t rs (gs ++ [[r]]))
    rcases h1 with h1 | h1
    · rw [h1]
      obtain ⟨X, x1, x2, x3, x4⟩ := chargeR_some ht hrs (hg.new hr1)
      refine ⟨X, x1, fun s hs => ?_, fun g hgm s hs => x3 g (List.mem_append_left _ hgm) s hs, x4⟩
      rcases List.mem_cons.1 hs with e | hs
      · subst e; exact x3 [s] (by simp) s (by simp)
      · exact x2 s hs
    · obtain ⟨i, hi, e⟩ := List.mem_map.1 h1
      have hi := List.mem_range.1 hi
      rw [← e]
      obtain ⟨X, x1, x2, x3, x4⟩ := chargeR_some ht hrs (hg.set hr1 hi)
      have hself : gs[i]?.getD [] ++ [r] ∈ gs.set i (gs[i]?.getD [] ++ [r]) := List.mem_set hi _
      refine ⟨X, x1, fun s hs => ?_, fun g hgm s hs => ?_, x4⟩
      · rcases List.mem_cons.1 hs with e | hs
        · subst e; exact x3 _ hself s (by simp)
        · exact x2 s hs
      · obtain ⟨k, hk⟩ := List.getElem?_of_mem hgm
        by_cases e : i = k
        · subst e
          exact x3 _ hself s (by rw [hk]; simp [hs])
        · exact x3 g (List.mem_of_getElem? (i := k) (by rw [List.getElem?_set_ne e]; exact hk)) s hs
/-- Each group is covered by its own ticket. -/
def Paired (t : Tar) : List (List Rd) → List Tk → Prop
  | [], [] => True
  | g :: gs, y :: Y => (∀ r ∈ g, covB t y r = true) ∧ Paired t gs Y
  | _, _ => False
theorem Paired.new {t : Tar} {r : Rd} {x : Tk} (hc : covB t x r = true) : ∀ {gs : List (List Rd)} {Y : List Tk}, Paired t gs Y → Paired t (gs ++ [[r]]) (Y ++ [x])
  | [], [], _ => ⟨by simp [hc], trivial⟩
  | g :: gs, y :: Y, h => ⟨h.1, Paired.new hc h.2⟩
  | [], _ :: _, h => h.elim
  | _ :: _, [], h => h.elim
theorem Paired.set {t : Tar} {r : Rd} {x : Tk} (hc : covB t x r = true) : ∀ {gs : List (List Rd)} {Y : List Tk} {i : Nat}, Paired t gs Y → Y[i]? = some x → i < gs.length ∧ Paired t (gs.set i (gs[i]?.getD [] ++ [r])) Y
  | [], [], i, _, hi => by simp at hi
  | g :: gs, y :: Y, 0, h, hi => by
    simp only [List.getElem?_cons_zero, Option.some.injEq] at hi
    subst hi
    refine ⟨by simp, fun s hs => ?_, h.2⟩
    simp only [List.getElem?_cons_zero, Option.getD_some, List.mem_append, List.mem_singleton] at hs
    rcases hs with hs | hs
    · exact h.1 s hs
    · subst hs; exact hc
  | g :: gs, y :: Y, i + 1, h, hi => by
    obtain ⟨h1, h2⟩ := Paired.set hc (i := i) h.2 (by simpa using hi)
    refine ⟨by simp; omega, h.1, ?_⟩
    simpa using h2
  | [], _ :: _, _, h, _ => h.elim
  | _ :: _, [], _, h, _ => h.elim
theorem paired_sum {t : Tar} (ht : tarB t = true) : ∀ {gs : List (List Rd)} {Y : List Tk}, Paired t gs Y → GsOk t gs → (∀ y ∈ Y, tkB t y = true) → sumI (gs.map (oneT t)) ≤ sumT t Y
  | [], [], _, _, _ => by simp [sumI, sumT]
  | g :: gs, y :: Y, h, hg, hy => by
    obtain ⟨g1, g2⟩ := hg g List.mem_cons_self
    have h1 := one_le ht g1 g2 (hy y List.mem_cons_self) h.1
    have h2 := paired_sum ht h.2 (fun m hm => hg m (List.mem_cons_of_mem _ hm)) fun z hz => hy z (List.mem_cons_of_mem _ hz)
    simp only [List.map_cons, sumI, sumT]
    omega
  | [], _ :: _, h, _, _ => h.elim
  | _ :: _, [], h, _, _ => h.elim
theorem chargeR_le {t : Tar} (ht : tarB t = true) : ∀ {rs : List Rd} {gs : List (List Rd)} {X Y : List Tk}, (∀ r ∈ rs, rideB t r = true) → GsOk t gs → Paired t gs Y → (∀ y ∈ Y, tkB t y = true) → (∀ x ∈ X, tkB t x = true) →
    (∀ r ∈ rs, paidB t Y r = true ∨ paidB t X r = true) → chargeR t rs gs ≤ sumT t Y + sumT t X
  | [], gs, X, Y, _, hg, hp, hy, hx, _ => by
    have h1 := paired_sum ht hp hg hy
    have h2 := sumT_nonneg ht X
    unfold chargeR
    omega
  | r :: rs, gs, X, Y, hr, hg, hp, hy, hx, hpd => by
    have hr1 := hr r List.mem_cons_self
    have hrs : ∀ s ∈ rs, rideB t s = true := fun s hs => hr s (List.mem_cons_of_mem _ hs)
    have hps : ∀ s ∈ rs, paidB t Y s = true ∨ paidB t X s = true := fun s hs => hpd s (List.mem_cons_of_mem _ hs)
    unfold chargeR
    obtain ⟨_, h2, h3⟩ := foldmin ((List.range gs.length).map fun i => chargeR t rs (gs.set i (gs[i]?.getD [] ++ [r]))) (chargeR t rs (gs ++ [[r]]))
    rcases hpd r List.mem_cons_self with h | h
    · obtain ⟨y, hym, hc⟩ := List.any_eq_true.1 h
      obtain ⟨i, hi⟩ := List.getElem?_of_mem hym
      obtain ⟨hl, hp2⟩ := hp.set hc hi
      have h4 := chargeR_le ht hrs (hg.set hr1 hl) hp2 hy hx hps
      exact Int.le_trans (h3 _ (List.mem_map.2 ⟨i, List.mem_range.2 hl, rfl⟩)) h4
    · obtain ⟨x, hxm, hc⟩ := List.any_eq_true.1 h
      have h4 := chargeR_le ht (X := X.erase x) (Y := Y ++ [x]) hrs (hg.new hr1) (hp.new hc) (fun z hz => by
        rcases List.mem_append.1 hz with hz | hz
        · exact hy z hz
        · simp only [List.mem_singleton] at hz
          subst hz
          exact hx z hxm) (fun z hz => hx z (List.mem_of_mem_erase hz)) (fun s hs => by
        rcases hps s hs with h | h
        · left; rw [paidB_append, h, Bool.true_or]
        · obtain ⟨z, hz, hzc⟩ := List.any_eq_true.1 h
          by_cases e : z = x
          · subst e
            left
            rw [paidB_append]
            simp [paidB, hzc]
          · right
            exact List.any_eq_true.2 ⟨z, (List.mem_erase_of_ne e).2 hz, hzc⟩)
      have h5 := sumT_erase (t := t) hxm
      rw [sumT_append] at h4
      simp only [sumT] at h4
      omega
theorem chargeR_least {t : Tar} (ht : tarB t = true) {l : List Rd} {n : Int} (hr : ∀ r ∈ l, rideB t r = true) (h : LeastT t l n) : chargeR t l [] = n := by
  obtain ⟨⟨X, hX, hs⟩, h2⟩ := h
  obtain ⟨x1, x2⟩ := areTk_iff.1 hX
  obtain ⟨Z, z1, z2, _, z4⟩ := chargeR_some ht (gs := []) hr (fun g hg => by cases hg)
  have h3 := h2 Z z1 z2
  have h4 := chargeR_le ht (gs := []) (X := X) (Y := []) hr (fun g hg => by cases hg) trivial (by simp) (fun x hx => (x1 x hx).1) fun r hr => Or.inr (x2 r hr)
  simp only [sumT] at h4
  omega
end Go.Proofs.Ytmbkpfkkohpnkaa
