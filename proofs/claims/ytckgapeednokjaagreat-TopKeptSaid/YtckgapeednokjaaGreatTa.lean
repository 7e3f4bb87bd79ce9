set_option linter.unusedVariables false
set_option linter.unusedSimpArgs false
namespace Go.Proofs.YtckgapeednokjaaGreat

/-! ### A timetable, its cutting: plain -/
structure Trip where
  fr : Int
  to : Int
  start : Int
  least : Int
  most : Int
  kind : Int
structure Tab where
  places : Int
  lay : Int
  empty : List (List Int)
  trips : List Trip
def Trip.none : Trip := ⟨0, 0, 0, 0, 0, 0⟩
def tinB (n lo hi : Int) : Bool := decide (lo ≤ n ∧ n ≤ hi)
theorem tinB_iff {n lo hi : Int} : tinB n lo hi = true ↔ lo ≤ n ∧ n ≤ hi := by simp [tinB]

structure TripOk (P : Int) (x : Trip) : Prop where
  fr : 0 ≤ x.fr ∧ x.fr ≤ P - 1
  to : 0 ≤ x.to ∧ x.to ≤ P - 1
  start : 0 ≤ x.start ∧ x.start ≤ 2000
  least : 1 ≤ x.least ∧ x.least ≤ x.most
  most : x.most ≤ 600
  kind : 0 ≤ x.kind ∧ x.kind ≤ 2
structure TabOk (t : Tab) : Prop where
  trips : t.trips.length ≤ 12
  places : 1 ≤ t.places ∧ t.places ≤ 6
  lay : 0 ≤ t.lay ∧ t.lay ≤ 600
  rows : (t.empty.length : Int) = t.places
  row : ∀ (a : Nat) (l : List Int), t.empty[a]? = some l → (l.length : Int) = t.places ∧ l[a]? = some 0 ∧ ∀ x ∈ l, 0 ≤ x ∧ x ≤ 600
  trip : ∀ x ∈ t.trips, TripOk t.places x

def tripAt (t : Tab) (i : Nat) : Trip := t.trips[i]?.getD Trip.none
def emptyAt (t : Tab) (a b : Int) : Int := (t.empty[a.toNat]?.getD [])[b.toNat]?.getD 0
def readyT (t : Tab) (x : Trip) (takes place : Int) : Int := x.start + takes + t.lay + emptyAt t x.to place
def mayT (t : Tab) (a b : Trip) : Bool := decide (a.kind = b.kind) && decide (readyT t a a.most b.fr ≤ b.start)
def May (t : Tab) (i k : Nat) : Prop := mayT t (tripAt t i) (tripAt t k) = true
theorem TabOk.at_ {t : Tab} (h : TabOk t) {i : Nat} (hi : i < t.trips.length) : TripOk t.places (tripAt t i) := by
  unfold tripAt
  rw [List.getElem?_eq_getElem hi]
  exact h.trip _ (List.getElem_mem hi)
theorem TabOk.empty_ {t : Tab} (h : TabOk t) {a b : Int} (ha : 0 ≤ a ∧ a ≤ t.places - 1) (hb : 0 ≤ b ∧ b ≤ t.places - 1) : 0 ≤ emptyAt t a b ∧ emptyAt t a b ≤ 600 := by
  have h1 := h.rows
  have ha' : a.toNat < t.empty.length := by omega
  obtain ⟨l1, _, l3⟩ := h.row a.toNat _ (List.getElem?_eq_getElem ha')
  unfold emptyAt
  rw [List.getElem?_eq_getElem ha', Option.getD_some]
  have hb' : b.toNat < t.empty[a.toNat].length := by omega
  rw [List.getElem?_eq_getElem hb', Option.getD_some]
  exact l3 _ (List.getElem_mem hb')
theorem may_grow {t : Tab} (h : TabOk t) {i k : Nat} (hi : i < t.trips.length) (hk : k < t.trips.length) (hm : May t i k) : (tripAt t i).start < (tripAt t k).start := by
  have h1 := h.at_ hi
  have h2 := h.at_ hk
  have h3 := h.empty_ h1.to h2.fr
  have h4 := h.lay
  unfold May mayT readyT at hm
  simp only [Bool.and_eq_true, decide_eq_true_eq] at hm
  have := h1.least
  omega
theorem may_irrefl {t : Tab} (h : TabOk t) {i : Nat} (hi : i < t.trips.length) : ¬ May t i i := fun hm => by
  have := may_grow h hi hi hm
  omega

/-! ### Followers -/
/-- Who follows whom: next and before tell the same. -/
structure Inv (N : Nat) (M : Nat → Nat → Prop) (nx bf : List Int) : Prop where
  ln : nx.length = N
  lb : bf.length = N
  fwd : ∀ (k j : Nat), bf[k]? = some (j : Int) → j < N ∧ nx[j]? = some (k : Int) ∧ M j k
  bwd : ∀ (j k : Nat), nx[j]? = some (k : Int) → k < N ∧ bf[k]? = some (j : Int)
  vb : ∀ x ∈ bf, x = -1 ∨ 0 ≤ x
  vn : ∀ x ∈ nx, x = -1 ∨ 0 ≤ x

theorem inv_start (N : Nat) (M : Nat → Nat → Prop) : Inv N M (List.replicate N (-1)) (List.replicate N (-1)) := by
  refine ⟨by simp, by simp, fun k j h => ?_, fun j k h => ?_, fun x h => ?_, fun x h => ?_⟩
  · have := List.mem_of_getElem? h
    rw [List.mem_replicate] at this
    omega
  · have := List.mem_of_getElem? h
    rw [List.mem_replicate] at this
    omega
  · exact .inl (List.mem_replicate.1 h).2
  · exact .inl (List.mem_replicate.1 h).2

def triedAt (tr : List Bool) (k : Nat) : Bool := tr[k]?.getD true
/-- What give leaves behind where it has found a follower for i. -/
structure Gave (N : Nat) (M : Nat → Nat → Prop) (i : Nat) (nx bf : List Int) (tr : List Bool) (nx' bf' : List Int) : Prop where
  ln : nx'.length = N
  lb : bf'.length = N
  k0 : ∃ k0, k0 < N ∧ triedAt tr k0 = false ∧ nx'[i]? = some (k0 : Int) ∧ bf'[k0]? = some (i : Int)
  fwd : ∀ (k j : Nat), bf'[k]? = some (j : Int) → j < N ∧ M j k ∧ (nx'[j]? = some (k : Int) ∨ (j = i ∧ bf[k]? = some (j : Int)))
  bwd : ∀ (j k : Nat), nx'[j]? = some (k : Int) → k < N ∧ bf'[k]? = some (j : Int)
  old : ∀ k, triedAt tr k = true → bf'[k]? = bf[k]?
  far : ∀ j, j ≠ i → (∀ k : Nat, bf[k]? = some (j : Int) → triedAt tr k = true) → nx'[j]? = nx[j]?
  vb : ∀ x ∈ bf', x = -1 ∨ 0 ≤ x
  vn : ∀ x ∈ nx', x = -1 ∨ 0 ≤ x

theorem set_get {l : List Int} {n k : Nat} {x : Int} (hn : n < l.length) : (l.set n x)[k]? = if k = n then some x else l[k]? := by
  rw [List.getElem?_set]
  by_cases h : n = k
  · subst h; rw [if_pos rfl, if_pos rfl]; simp [hn]
  · rw [if_neg h, if_neg (fun e => h e.symm)]
theorem set_vals {l : List Int} {n k : Nat} (h : ∀ x ∈ l, x = -1 ∨ 0 ≤ x) : ∀ x ∈ l.set n (k : Int), x = -1 ∨ 0 ≤ x := fun x hx => by
  rcases List.mem_or_eq_of_mem_set hx with h1 | rfl
  · exact h x h1
  · exact .inr (by omega)
theorem set_vals' {l : List Int} {n : Nat} {k : Int} (hk : 0 ≤ k) (h : ∀ x ∈ l, x = -1 ∨ 0 ≤ x) : ∀ x ∈ l.set n k, x = -1 ∨ 0 ≤ x := fun x hx => by
  rcases List.mem_or_eq_of_mem_set hx with h1 | rfl
  · exact h x h1
  · exact .inr hk

/-- Follower k is free. -/
theorem gave_free {N : Nat} {M : Nat → Nat → Prop} {i k : Nat} {nx bf : List Int} {tr : List Bool} (h : Inv N M nx bf) (hi : i < N) (hk : k < N) (hm : M i k) (hu : triedAt tr k = false) (hf : bf[k]? = some (-1))
    (ht : ∀ q : Nat, bf[q]? = some (i : Int) → triedAt tr q = true) : Gave N M i nx bf tr (nx.set i (k : Int)) (bf.set k (i : Int)) := by
  have hn := h.ln
  have hb := h.lb
  refine ⟨by simp [hn], by simp [hb], ⟨k, hk, hu, ?_, ?_⟩, fun q j hq => ?_, fun j q hq => ?_, fun q hq => ?_, fun j hj _ => ?_, set_vals h.vb, set_vals h.vn⟩
  · rw [set_get (by omega), if_pos rfl]
  · rw [set_get (by omega), if_pos rfl]
  · rw [set_get (by omega)] at hq
    split at hq
    · rename_i e
      subst e
      obtain rfl : i = j := by have := Option.some.inj hq; omega
      exact ⟨hi, hm, .inl (by rw [set_get (by omega), if_pos rfl])⟩
    · obtain ⟨h1, h2, h3⟩ := h.fwd q j hq
      refine ⟨h1, h3, ?_⟩
      by_cases e : j = i
      · exact .inr ⟨e, hq⟩
      · exact .inl (by rw [set_get (by omega), if_neg e]; exact h2)
  · rw [set_get (by omega)] at hq
    split at hq
    · rename_i e
      subst e
      obtain rfl : k = q := by have := Option.some.inj hq; omega
      exact ⟨hk, by rw [set_get (by omega), if_pos rfl]⟩
    · obtain ⟨h1, h2⟩ := h.bwd j q hq
      refine ⟨h1, ?_⟩
      have : q ≠ k := fun e => by subst e; rw [hf] at h2; have := Option.some.inj h2; omega
      rw [set_get (by omega), if_neg this]
      exact h2
  · have : q ≠ k := fun e => by subst e; rw [hu] at hq; cases hq
    rw [set_get (by omega), if_neg this]
  · rw [set_get (by omega), if_neg hj]

/-- The one before k has found another follower. -/
theorem gave_more {N : Nat} {M : Nat → Nat → Prop} {i k b : Nat} {nx bf nx' bf' : List Int} {tr tr' : List Bool} (h : Inv N M nx bf) (hi : i < N) (hk : k < N) (hm : M i k) (hu : triedAt tr k = false)
    (hf : bf[k]? = some (b : Int)) (ht : ∀ q : Nat, bf[q]? = some (i : Int) → triedAt tr q = true) (htr : ∀ q, triedAt tr q = true → triedAt tr' q = true) (hk' : triedAt tr' k = true)
    (g : Gave N M b nx bf tr' nx' bf') : Gave N M i nx bf tr (nx'.set i (k : Int)) (bf'.set k (i : Int)) := by
  have hn := g.ln
  have hb := g.lb
  obtain ⟨k0, hk0, hu0, hn0, hb0⟩ := g.k0
  have hkk : k0 ≠ k := fun e => by subst e; rw [hk'] at hu0; cases hu0
  have hib : i ≠ b := fun e => by
    subst e
    have := ht k hf
    rw [hu] at this
    cases this
  have hbk : bf'[k]? = some (b : Int) := (g.old k hk').trans hf
  have hni : nx'[i]? = nx[i]? := g.far i hib fun q hq => htr q (ht q hq)
  have hu' : triedAt tr k0 = false := by
    cases e : triedAt tr k0 with
    | false => rfl
    | true => rw [htr k0 e] at hu0; cases hu0
  refine ⟨by simp [hn], by simp [hb], ⟨k, hk, hu, ?_, ?_⟩, fun q j hq => ?_, fun j q hq => ?_, fun q hq => ?_, fun j hj hfar => ?_, set_vals g.vb, set_vals g.vn⟩
  · rw [set_get (by omega), if_pos rfl]
  · rw [set_get (by omega), if_pos rfl]
  · rw [set_get (by omega)] at hq
    split at hq
    · rename_i e
      subst e
      obtain rfl : i = j := by have := Option.some.inj hq; omega
      exact ⟨hi, hm, .inl (by rw [set_get (by omega), if_pos rfl])⟩
    · rename_i hqk
      obtain ⟨h1, h2, h3⟩ := g.fwd q j hq
      refine ⟨h1, h2, ?_⟩
      by_cases e : j = i
      · subst e
        rcases h3 with h3 | ⟨h3, _⟩
        · rw [hni] at h3
          exact .inr ⟨rfl, (h.bwd j q h3).2⟩
        · exact absurd h3 hib
      · rcases h3 with h3 | ⟨rfl, h3⟩
        · exact .inl (by rw [set_get (by omega), if_neg e]; exact h3)
        · exfalso
          have e1 := (h.fwd q j h3).2.1
          have e2 := (h.fwd k j hf).2.1
          rw [e1] at e2
          simp at e2
          omega
  · rw [set_get (by omega)] at hq
    split at hq
    · rename_i e
      subst e
      obtain rfl : k = q := by have := Option.some.inj hq; omega
      exact ⟨hk, by rw [set_get (by omega), if_pos rfl]⟩
    · rename_i hji
      obtain ⟨h1, h2⟩ := g.bwd j q hq
      refine ⟨h1, ?_⟩
      have : q ≠ k := fun e => by
        subst e
        rw [hbk] at h2
        have e3 : b = j := by have := Option.some.inj h2; omega
        subst e3
        rw [hn0] at hq
        simp at hq
        omega
      rw [set_get (by omega), if_neg this]
      exact h2
  · have : q ≠ k := fun e => by subst e; rw [hu] at hq; cases hq
    rw [set_get (by omega), if_neg this]
    exact g.old q (htr q hq)
  · rw [set_get (by omega), if_neg hj]
    refine g.far j (fun e => ?_) fun q hq => htr q (hfar q hq)
    subst e
    have := hfar k hf
    rw [hu] at this
    cases this

/-- Behind a give for a trip that had no follower all tells the same again. -/
theorem gave_inv {N : Nat} {M : Nat → Nat → Prop} {i : Nat} {nx bf nx' bf' : List Int} {tr : List Bool} (h : Inv N M nx bf) (hn : nx[i]? = some (-1)) (g : Gave N M i nx bf tr nx' bf') : Inv N M nx' bf' := by
  refine ⟨g.ln, g.lb, fun k j hk => ?_, g.bwd, g.vb, g.vn⟩
  obtain ⟨h1, h2, h3⟩ := g.fwd k j hk
  refine ⟨h1, ?_, h2⟩
  rcases h3 with h3 | ⟨rfl, h3⟩
  · exact h3
  · have := (h.fwd k j h3).2.1
    rw [hn] at this
    have := Option.some.inj this
    omega
theorem gave_later {N : Nat} {M : Nat → Nat → Prop} {i j : Nat} {nx bf nx' bf' : List Int} {tr : List Bool} (h : Inv N M nx bf) (hj : j ≠ i) (hn : nx[j]? = some (-1)) (g : Gave N M i nx bf tr nx' bf') : nx'[j]? = some (-1) := by
  rw [g.far j hj fun k hk => ?_]
  · exact hn
  · have := (h.fwd k j hk).2.1
    rw [hn] at this
    have := Option.some.inj this
    omega

/-! ### The blocks -/
/-- A trip, and those behind it. -/
def restC (nx : List Int) : Nat → Int → List Nat
  | 0, _ => []
  | f + 1, k => if k < 0 then [] else k.toNat :: restC nx f (nx[k.toNat]?.getD (-1))
def heads (bf : List Int) (n : Nat) : List Nat := (List.range n).filter fun i => bf[i]? == some (-1)
def chainsL (nx bf : List Int) (N : Nat) : List (List Nat) := (heads bf N).map fun (i : Nat) => restC nx 3000 (i : Int)

/-- A list of blocks is a cutting. -/
structure IsCut (N : Nat) (M : Nat → Nat → Prop) (c : List (List Nat)) : Prop where
  ne : ∀ b ∈ c, b ≠ []
  once : c.flatten.Nodup
  lt : ∀ x ∈ c.flatten, x < N
  all : c.flatten.length = N
  may : ∀ b ∈ c, ∀ k x y, b[k]? = some x → b[k + 1]? = some y → M x y

section
variable {N : Nat} {M : Nat → Nat → Prop} {nx bf : List Int}
theorem restC_neg (nx : List Int) (f : Nat) {k : Int} (h : k < 0) : restC nx f k = [] := by
  cases f with
  | zero => rfl
  | succ f => simp [restC, h]
theorem restC_pos (nx : List Int) (f k : Nat) : restC nx (f + 1) (k : Int) = k :: restC nx f (nx[k]?.getD (-1)) := by
  simp only [restC]
  rw [if_neg (by omega)]
  simp
theorem next_cases (h : Inv N M nx bf) {y : Nat} (hy : y < N) : nx[y]? = some (-1) ∨ ∃ z : Nat, nx[y]? = some (z : Int) ∧ z < N ∧ bf[z]? = some (y : Int) ∧ M y z := by
  have hy' : y < nx.length := by rw [h.ln]; exact hy
  have e := List.getElem?_eq_getElem hy'
  rcases h.vn _ (List.getElem_mem hy') with h1 | h1
  · exact .inl (by rw [e, h1])
  · refine .inr ⟨nx[y].toNat, ?_, ?_⟩
    · rw [e]; congr 1; omega
    · have e2 : nx[y]? = some ((nx[y].toNat : Nat) : Int) := by rw [e]; congr 1; omega
      obtain ⟨h2, h3⟩ := h.bwd y _ e2
      exact ⟨h2, h3, (h.fwd _ _ h3).2.2⟩
/-- Each is behind the one before it, and the first is where it begins. -/
theorem rest_link (h : Inv N M nx bf) : ∀ (f i p x : Nat), i < N → (restC nx f (i : Int))[p]? = some x → x < N ∧ ((p = 0 ∧ x = i) ∨ ∃ q y, p = q + 1 ∧ (restC nx f (i : Int))[q]? = some y ∧ nx[y]? = some (x : Int)) := by
  intro f
  induction f with
  | zero => intro i p x _ hx; simp [restC] at hx
  | succ f ih =>
    intro i p x hi hx
    rw [restC_pos] at hx ⊢
    cases p with
    | zero =>
      simp at hx
      subst hx
      exact ⟨hi, .inl ⟨rfl, rfl⟩⟩
    | succ p =>
      rw [List.getElem?_cons_succ] at hx
      rcases next_cases h hi with e | ⟨z, e, hz, _, _⟩
      · rw [e, Option.getD_some, restC_neg _ _ (by omega)] at hx
        simp at hx
      · rw [e, Option.getD_some] at hx ⊢
        obtain ⟨h1, h2⟩ := ih z p x hz hx
        refine ⟨h1, .inr ⟨p, ?_⟩⟩
        rcases h2 with ⟨rfl, rfl⟩ | ⟨q, y, rfl, h3, h4⟩
        · exact ⟨i, rfl, by simp, e⟩
        · exact ⟨y, rfl, by rw [List.getElem?_cons_succ]; exact h3, h4⟩
/-- One that follows is in the list too. -/
theorem rest_next (h : Inv N M nx bf) {s : Nat → Int} (hs : ∀ j k, j < N → k < N → M j k → s j < s k) (hb : ∀ j, j < N → s j ≤ 2000) : ∀ (f i p y z : Nat), i < N → 2001 - s i ≤ f → (restC nx f (i : Int))[p]? = some y → nx[y]? = some (z : Int) →
    (restC nx f (i : Int))[p + 1]? = some z := by
  intro f
  induction f with
  | zero => intro i p y z hi hf _ _; have := hb i hi; omega
  | succ f ih =>
    intro i p y z hi hf hy hz
    rw [restC_pos] at hy ⊢
    rw [List.getElem?_cons_succ]
    cases p with
    | zero =>
      simp at hy
      subst hy
      rw [hz, Option.getD_some]
      obtain ⟨h1, h2⟩ := h.bwd _ _ hz
      have h3 := hs _ _ hi h1 (h.fwd _ _ h2).2.2
      have h4 := hb z h1
      obtain ⟨f', rfl⟩ : ∃ f', f = f' + 1 := ⟨f - 1, by omega⟩
      rw [restC_pos]
      rfl
    | succ p =>
      rw [List.getElem?_cons_succ] at hy
      rcases next_cases h hi with e | ⟨v, e, hv, _, hm⟩
      · rw [e, Option.getD_some, restC_neg _ _ (by omega)] at hy
        simp at hy
      · rw [e, Option.getD_some] at hy ⊢
        exact ih v p y z hv (by have := hs _ _ hi hv hm; omega) hy hz
theorem heads_mem {i : Nat} : i ∈ heads bf N ↔ i < N ∧ bf[i]? = some (-1) := by simp [heads]
theorem rest_unique (h : Inv N M nx bf) (f : Nat) : ∀ (p q i j x : Nat), i ∈ heads bf N → j ∈ heads bf N → (restC nx f (i : Int))[p]? = some x → (restC nx f (j : Int))[q]? = some x → i = j ∧ p = q := by
  have key : ∀ (q i x y : Nat), i ∈ heads bf N → x = i → (restC nx f (i : Int))[q]? = some y → nx[y]? = some (x : Int) → False := fun q i x y hi hx hy hn => by
    subst hx
    have h1 := (h.bwd _ _ hn).2
    rw [(heads_mem.1 hi).2] at h1
    have := Option.some.inj h1
    omega
  intro p
  induction p with
  | zero =>
    intro q i j x hi hj hp hq
    obtain ⟨_, h1⟩ := rest_link h f i 0 x (heads_mem.1 hi).1 hp
    obtain ⟨_, h2⟩ := rest_link h f j q x (heads_mem.1 hj).1 hq
    rcases h1 with ⟨_, rfl⟩ | ⟨q', y, e, _⟩
    · rcases h2 with ⟨rfl, rfl⟩ | ⟨q', y, rfl, h3, h4⟩
      · exact ⟨rfl, rfl⟩
      · have h5 := (h.bwd _ _ h4).2
        rw [(heads_mem.1 hi).2] at h5
        have := Option.some.inj h5
        omega
    · omega
  | succ p ih =>
    intro q i j x hi hj hp hq
    obtain ⟨_, h1⟩ := rest_link h f i (p + 1) x (heads_mem.1 hi).1 hp
    obtain ⟨_, h2⟩ := rest_link h f j q x (heads_mem.1 hj).1 hq
    rcases h1 with ⟨e, _⟩ | ⟨p', y, e, h3, h4⟩
    · omega
    · obtain rfl : p = p' := by omega
      have h6 := (h.bwd _ _ h4).2
      rcases h2 with ⟨rfl, rfl⟩ | ⟨q', y', rfl, h5, h7⟩
      · rw [(heads_mem.1 hj).2] at h6
        have := Option.some.inj h6
        omega
      · have h8 := (h.bwd _ _ h7).2
        rw [h6] at h8
        have e2 : y = y' := by have := Option.some.inj h8; omega
        subst e2
        obtain ⟨e3, e4⟩ := ih q' i j y hi hj h3 h5
        exact ⟨e3, by omega⟩
theorem nodup_of_get {α : Type} {l : List α} (h : ∀ (p q : Nat) (x : α), l[p]? = some x → l[q]? = some x → p = q) : l.Nodup := by
  rw [List.Nodup, List.pairwise_iff_getElem]
  intro i j hi hj hij e
  have := h i j _ (List.getElem?_eq_getElem hi) (by rw [e]; exact List.getElem?_eq_getElem hj)
  omega
theorem length_of_all {l : List Nat} {N : Nat} (hn : l.Nodup) (hlt : ∀ x ∈ l, x < N) (hall : ∀ x, x < N → x ∈ l) : l.length = N := by
  have : l.Perm (List.range N) := (List.perm_ext_iff_of_nodup hn List.nodup_range).2 fun x => by
    rw [List.mem_range]
    exact ⟨hlt x, hall x⟩
  simpa using this.length_eq
theorem cut_is (h : Inv N M nx bf) {s : Nat → Int} (hs : ∀ j k, j < N → k < N → M j k → s j < s k) (hb : ∀ j, j < N → 0 ≤ s j ∧ s j ≤ 2000) : IsCut N M (chainsL nx bf N) := by
  have hmem : ∀ b ∈ chainsL nx bf N, ∃ i, i ∈ heads bf N ∧ b = restC nx 3000 (i : Int) := fun b hm => by
    obtain ⟨i, hi, rfl⟩ := List.mem_map.1 hm
    exact ⟨i, hi, rfl⟩
  have hfl : ∀ x, x ∈ (chainsL nx bf N).flatten ↔ ∃ i p, i ∈ heads bf N ∧ (restC nx 3000 (i : Int))[p]? = some x := fun x => by
    rw [List.mem_flatten]
    constructor
    · rintro ⟨b, hm, hx⟩
      obtain ⟨i, hi, rfl⟩ := hmem b hm
      obtain ⟨p, hp, rfl⟩ := List.getElem_of_mem hx
      exact ⟨i, p, hi, List.getElem?_eq_getElem hp⟩
    · rintro ⟨i, p, hi, hp⟩
      exact ⟨_, List.mem_map.2 ⟨i, hi, rfl⟩, List.mem_of_getElem? hp⟩
  have hlt : ∀ x ∈ (chainsL nx bf N).flatten, x < N := fun x hx => by
    obtain ⟨i, p, hi, hp⟩ := (hfl x).1 hx
    exact (rest_link h 3000 i p x (heads_mem.1 hi).1 hp).1
  have hnd : (chainsL nx bf N).flatten.Nodup := by
    rw [List.Nodup, List.pairwise_flatten]
    refine ⟨fun b hm => ?_, ?_⟩
    · obtain ⟨i, hi, rfl⟩ := hmem b hm
      exact nodup_of_get fun p q x hp hq => (rest_unique h 3000 p q i i x hi hi hp hq).2
    · unfold chainsL
      rw [List.pairwise_map]
      have hh : (heads bf N).Nodup := List.Pairwise.filter _ List.nodup_range
      refine (List.Pairwise.and_mem.1 hh).imp ?_
      rintro i j ⟨hi, hj, hij⟩ x hx y hy rfl
      obtain ⟨p, hp, e1⟩ := List.getElem_of_mem hx
      obtain ⟨q, hq, e2⟩ := List.getElem_of_mem hy
      exact hij (rest_unique h 3000 p q i j x hi hj (by rw [← e1]; exact List.getElem?_eq_getElem hp) (by rw [← e2]; exact List.getElem?_eq_getElem hq)).1
  have hall : ∀ (n : Nat) (x : Nat), x < N → s x < n → x ∈ (chainsL nx bf N).flatten := by
    intro n
    induction n with
    | zero => intro x hx h1; have := hb x hx; omega
    | succ n ih =>
      intro x hx h1
      have hx' : x < bf.length := by rw [h.lb]; exact hx
      have e := List.getElem?_eq_getElem hx'
      rcases h.vb _ (List.getElem_mem hx') with h2 | h2
      · rw [h2] at e
        refine (hfl x).2 ⟨x, 0, heads_mem.2 ⟨hx, e⟩, ?_⟩
        rw [restC_pos]
        rfl
      · have e2 : bf[x]? = some ((bf[x].toNat : Nat) : Int) := by rw [e]; congr 1; omega
        obtain ⟨h3, h4, h5⟩ := h.fwd _ _ e2
        have h6 := hs _ _ h3 hx h5
        obtain ⟨i, p, hi, hp⟩ := (hfl _).1 (ih _ h3 (by omega))
        have hi' := (heads_mem.1 hi).1
        exact (hfl x).2 ⟨i, p + 1, hi, rest_next h hs (fun j hj => (hb j hj).2) 3000 i p _ x hi' (by have := hb i hi'; omega) hp h4⟩
  refine ⟨fun b hm => ?_, hnd, hlt, length_of_all hnd hlt fun x hx => hall ((s x).toNat + 1) x hx (by have := hb x hx; omega), fun b hm k x y hx hy => ?_⟩
  · obtain ⟨i, hi, rfl⟩ := hmem b hm
    rw [restC_pos]
    simp
  · obtain ⟨i, hi, rfl⟩ := hmem b hm
    obtain ⟨_, h1⟩ := rest_link h 3000 i (k + 1) y (heads_mem.1 hi).1 hy
    rcases h1 with ⟨e, _⟩ | ⟨q, z, e, h2, h3⟩
    · omega
    · obtain rfl : k = q := by omega
      rw [hx] at h2
      obtain rfl : x = z := by simpa using h2
      exact (h.fwd _ _ (h.bwd _ _ h3).2).2.2
end
end Go.Proofs.YtckgapeednokjaaGreat
