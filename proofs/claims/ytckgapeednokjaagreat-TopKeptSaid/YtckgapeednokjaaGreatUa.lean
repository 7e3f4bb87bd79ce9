import Derived.ProofKit
set_option linter.unusedVariables false
set_option linter.unusedSimpArgs false
namespace Go.Proofs.YtckgapeednokjaaGreat

/-! ### TopKept, the plain law: what is known and what lacks is all -/
structure Rc where
  mac : Int
  seq : Int
  min : Int
  kind : Int
  a : Int
  b : Int
deriving DecidableEq
structure RcOk (r : Rc) : Prop where
  mac : 0 ≤ r.mac ∧ r.mac ≤ 999
  seq : 1 ≤ r.seq ∧ r.seq ≤ 9999
  min : 0 ≤ r.min ∧ r.min ≤ 1000000
  kind : r.kind = 0 ∧ (0 ≤ r.a ∧ r.a ≤ 99) ∧ (0 ≤ r.b ∧ r.b ≤ 10000) ∨ r.kind = 1 ∧ (0 ≤ r.a ∧ r.a ≤ 1000000) ∧ r.b = 0 ∨ r.kind = 2 ∧ (0 ≤ r.a ∧ r.a ≤ 9999) ∧ (0 ≤ r.b ∧ r.b ≤ 10000000)
def Rlt (r s : Rc) : Prop := r.mac < s.mac ∨ r.mac = s.mac ∧ r.seq < s.seq ∧ r.min ≤ s.min
def zeroR (m : Int) : Rc := ⟨m, 0, 0, 0, 0, 0⟩
/-- A and B of each Close are counted. -/
def closeL : Option Int → Int → Int → List Rc → List Rc
  | _, _, _, [] => []
  | pm, A, B, r :: l =>
    if r.kind = 0 then r :: closeL (some r.mac) ((if pm = some r.mac then A else 0) + 1) ((if pm = some r.mac then B else 0) + r.b) l
    else if r.kind = 2 then { r with a := if pm = some r.mac then A else 0, b := if pm = some r.mac then B else 0 } :: closeL (some r.mac) (if pm = some r.mac then A else 0) (if pm = some r.mac then B else 0) l
    else r :: closeL (some r.mac) (if pm = some r.mac then A else 0) (if pm = some r.mac then B else 0) l
/-- What is left. -/
def keepL (p : Nat → Bool) : Nat → List Rc → List Rc
  | _, [] => []
  | i, r :: l => if r.kind ≠ 0 ∨ p i = true then r :: keepL p (i + 1) l else keepL p (i + 1) l
structure Lk where
  mac : Int
  fr : Int
  to : Int
  sales : Int
  coins : Int
deriving DecidableEq
def nS (l : List Rc) : Int := (l.countP fun r => decide (r.kind = 0) : Nat)
def cS : List Rc → Int
  | [] => 0
  | r :: l => (if r.kind = 0 then r.b else 0) + cS l
def lackOf (fr : Rc) (bt : List Rc) (r : Rc) : Lk := ⟨r.mac, fr.seq, r.seq, r.a - fr.a - nS bt, r.b - fr.b - cS bt⟩
def canOf (fr : Rc) (bt : List Rc) (r : Rc) : Prop := 0 ≤ (lackOf fr bt r).sales ∧ (lackOf fr bt r).sales ≤ r.seq - fr.seq - 1 - bt.length ∧ 0 ≤ (lackOf fr bt r).coins ∧ (lackOf fr bt r).coins ≤ 10000 * (lackOf fr bt r).sales
/-- The stretches: whence, what lies between, the Close. -/
def strL : Option Int → Rc → List Rc → List Rc → List (Rc × List Rc × Rc)
  | _, _, _, [] => []
  | pm, fr, bt, r :: l =>
    if r.kind = 2 then (if pm = some r.mac then fr else zeroR r.mac, if pm = some r.mac then bt else [], r) :: strL (some r.mac) r [] l
    else strL (some r.mac) (if pm = some r.mac then fr else zeroR r.mac) ((if pm = some r.mac then bt else []) ++ [r]) l
def lastR (m : Int) : List Rc → Option Rc
  | [] => none
  | r :: l => match lastR m l with
    | some x => some x
    | none => if r.mac = m then some r else none
/-- The coins of the Sales of a machine, and how many. -/
def knC (m : Int) : List Rc → Int
  | [] => 0
  | r :: l => (if r.mac = m ∧ r.kind = 0 then r.b else 0) + knC m l
def knN (m : Int) : List Rc → Int
  | [] => 0
  | r :: l => (if r.mac = m ∧ r.kind = 0 then 1 else 0) + knN m l
def lkC (m : Int) : List (Rc × List Rc × Rc) → Int
  | [] => 0
  | s :: l => (if s.2.2.mac = m then (lackOf s.1 s.2.1 s.2.2).coins else 0) + lkC m l
def lkN (m : Int) : List (Rc × List Rc × Rc) → Int
  | [] => 0
  | s :: l => (if s.2.2.mac = m then (lackOf s.1 s.2.1 s.2.2).sales else 0) + lkN m l
theorem nS_snoc (l : List Rc) (r : Rc) : nS (l ++ [r]) = nS l + if r.kind = 0 then 1 else 0 := by
  unfold nS
  rw [List.countP_append]
  by_cases h : r.kind = 0 <;> simp [h]
theorem cS_snoc : ∀ (l : List Rc) (r : Rc), cS (l ++ [r]) = cS l + if r.kind = 0 then r.b else 0
  | [], r => by simp [cS]
  | x :: l, r => by
    rw [List.cons_append, cS, cS, cS_snoc l r]
    omega
theorem strL_close {pm : Option Int} {fr r : Rc} {bt l : List Rc} (h : r.kind = 2) : strL pm fr bt (r :: l) = (if pm = some r.mac then fr else zeroR r.mac, if pm = some r.mac then bt else [], r) :: strL (some r.mac) r [] l := by
  rw [strL, if_pos h]
theorem strL_other {pm : Option Int} {fr r : Rc} {bt l : List Rc} (h : r.kind ≠ 2) : strL pm fr bt (r :: l) = strL (some r.mac) (if pm = some r.mac then fr else zeroR r.mac) ((if pm = some r.mac then bt else []) ++ [r]) l := by
  rw [strL, if_neg h]
theorem closeL_sale {pm : Option Int} {A B : Int} {r : Rc} {l : List Rc} (h : r.kind = 0) : closeL pm A B (r :: l) = r :: closeL (some r.mac) ((if pm = some r.mac then A else 0) + 1) ((if pm = some r.mac then B else 0) + r.b) l := by
  rw [closeL, if_pos h]
theorem closeL_close {pm : Option Int} {A B : Int} {r : Rc} {l : List Rc} (h : r.kind = 2) : closeL pm A B (r :: l) = { r with a := if pm = some r.mac then A else 0, b := if pm = some r.mac then B else 0 } :: closeL (some r.mac) (if pm = some r.mac then A else 0) (if pm = some r.mac then B else 0) l := by
  rw [closeL, if_neg (by omega), if_pos h]
theorem closeL_other {pm : Option Int} {A B : Int} {r : Rc} {l : List Rc} (h : r.kind ≠ 0) (h2 : r.kind ≠ 2) : closeL pm A B (r :: l) = r :: closeL (some r.mac) (if pm = some r.mac then A else 0) (if pm = some r.mac then B else 0) l := by
  rw [closeL, if_neg h, if_neg h2]
theorem keepL_yes {p : Nat → Bool} {i : Nat} {r : Rc} {l : List Rc} (h : r.kind ≠ 0 ∨ p i = true) : keepL p i (r :: l) = r :: keepL p (i + 1) l := by
  rw [keepL, if_pos h]
theorem keepL_no {p : Nat → Bool} {i : Nat} {r : Rc} {l : List Rc} (h : r.kind = 0) (h2 : ¬ p i = true) : keepL p i (r :: l) = keepL p (i + 1) l := by
  rw [keepL, if_neg (by simp [h, h2])]
theorem knC_cons (m : Int) (r : Rc) (l : List Rc) : knC m (r :: l) = (if r.mac = m ∧ r.kind = 0 then r.b else 0) + knC m l := rfl
theorem knN_cons (m : Int) (r : Rc) (l : List Rc) : knN m (r :: l) = (if r.mac = m ∧ r.kind = 0 then 1 else 0) + knN m l := rfl
theorem lkC_cons (m : Int) (s : Rc × List Rc × Rc) (l : List (Rc × List Rc × Rc)) : lkC m (s :: l) = (if s.2.2.mac = m then (lackOf s.1 s.2.1 s.2.2).coins else 0) + lkC m l := rfl
theorem lkN_cons (m : Int) (s : Rc × List Rc × Rc) (l : List (Rc × List Rc × Rc)) : lkN m (s :: l) = (if s.2.2.mac = m then (lackOf s.1 s.2.1 s.2.2).sales else 0) + lkN m l := rfl
theorem close_mac (m : Int) : ∀ (l : List Rc) (pm : Option Int) (A B : Int), (∀ r ∈ l, r.mac ≠ m) → lastR m (closeL pm A B l) = none
  | [], _, _, _, _ => rfl
  | r :: l, pm, A, B, h => by
    have h1 := h r (by simp)
    have h2 : ∀ s ∈ l, s.mac ≠ m := fun s hs => h s (by simp [hs])
    unfold closeL
    split
    · rw [lastR, close_mac m l _ _ _ h2]; simp [h1]
    · split
      · rw [lastR, close_mac m l _ _ _ h2]; simp [h1]
      · rw [lastR, close_mac m l _ _ _ h2]; simp [h1]
theorem keep_none (m : Int) (p : Nat → Bool) : ∀ (l : List Rc) (i : Nat) (pm : Option Int) (A B : Int) (pl : Option Int) (fr : Rc) (bt : List Rc), (∀ r ∈ l, r.mac ≠ m) →
    knC m (keepL p i (closeL pm A B l)) = 0 ∧ knN m (keepL p i (closeL pm A B l)) = 0 ∧ lkC m (strL pl fr bt (keepL p i (closeL pm A B l))) = 0 ∧ lkN m (strL pl fr bt (keepL p i (closeL pm A B l))) = 0
  | [], i, pm, A, B, pl, fr, bt, _ => ⟨rfl, rfl, rfl, rfl⟩
  | r :: l, i, pm, A, B, pl, fr, bt, h => by
    have h1 := h r (by simp)
    have h2 : ∀ s ∈ l, s.mac ≠ m := fun s hs => h s (by simp [hs])
    have e1 : ¬ (r.mac = m ∧ r.kind = 0) := fun h => h1 h.1
    by_cases k0 : r.kind = 0
    · rw [closeL_sale k0]
      by_cases hp : p i = true
      · rw [keepL_yes (.inr hp), knC_cons, knN_cons, strL_other (by omega), if_neg e1, if_neg e1, Int.zero_add, Int.zero_add]
        exact keep_none m p l _ _ _ _ _ _ _ h2
      · rw [keepL_no k0 hp]
        exact keep_none m p l _ _ _ _ _ _ _ h2
    · by_cases k2 : r.kind = 2
      · rw [closeL_close k2]
        obtain ⟨r', hr'⟩ : ∃ r', { r with a := if pm = some r.mac then A else 0, b := if pm = some r.mac then B else 0 } = r' := ⟨_, rfl⟩
        rw [hr']
        have k2' : r'.kind = 2 := by rw [← hr']; exact k2
        have h1' : ¬ r'.mac = m := by rw [← hr']; exact h1
        have e1' : ¬ (r'.mac = m ∧ r'.kind = 0) := fun h => h1' h.1
        rw [keepL_yes (.inl (by omega)), knC_cons, knN_cons, strL_close k2', lkC_cons, lkN_cons, if_neg e1', if_neg e1', if_neg h1', if_neg h1', Int.zero_add, Int.zero_add, Int.zero_add, Int.zero_add]
        exact keep_none m p l _ _ _ _ _ _ _ h2
      · rw [closeL_other k0 k2, keepL_yes (.inl k0), knC_cons, knN_cons, strL_other k2, if_neg e1, if_neg e1, Int.zero_add, Int.zero_add]
        exact keep_none m p l _ _ _ _ _ _ _ h2
/-- The state of the count (pm A B), of the stretch (pl fr bt), what is lost since the last Close (ls lc), and the last number (q). -/
structure KSt (l : List Rc) (pm : Option Int) (A B : Int) (pl : Option Int) (fr : Rc) (bt : List Rc) (ls lc q : Int) : Prop where
  cnt : ∀ m, pm = some m → A = (if pl = some m then fr else zeroR m).a + nS (if pl = some m then bt else []) + ls
  coi : ∀ m, pm = some m → B = (if pl = some m then fr else zeroR m).b + cS (if pl = some m then bt else []) + lc
  bd : 0 ≤ ls ∧ 0 ≤ lc ∧ lc ≤ 10000 * ls
  room : ∀ m, pm = some m → (if pl = some m then bt else []).length + ls ≤ q - (if pl = some m then fr else zeroR m).seq
  nxt : ∀ m, pm = some m → ∀ r ∈ l, r.mac = m → q < r.seq
  low : ∀ m, pm = some m → ∀ r ∈ l, m ≤ r.mac
  old : ∀ m, pl = some m → pm ≠ some m → ∀ r ∈ l, r.mac ≠ m
theorem lastR_none {m : Int} : ∀ {l : List Rc}, lastR m l = none → ∀ s ∈ l, s.mac ≠ m
  | [], _, s, hs => by simp at hs
  | r :: l, h, s, hs => by
    unfold lastR at h
    cases e : lastR m l with
    | some x => rw [e] at h; cases h
    | none =>
      rw [e] at h
      by_cases hr : r.mac = m
      · simp [hr] at h
      · rcases List.mem_cons.1 hs with rfl | hs
        · exact hr
        · exact lastR_none e s hs
theorem close_macs : ∀ (l : List Rc) (pm : Option Int) (A B : Int), (closeL pm A B l).map Rc.mac = l.map Rc.mac
  | [], _, _, _ => rfl
  | r :: l, pm, A, B => by
    by_cases k0 : r.kind = 0
    · rw [closeL_sale k0, List.map_cons, List.map_cons, close_macs l]
    · by_cases k2 : r.kind = 2
      · rw [closeL_close k2, List.map_cons, List.map_cons, close_macs l]
      · rw [closeL_other k0 k2, List.map_cons, List.map_cons, close_macs l]
theorem lastR_cons {m : Int} {r x : Rc} {l : List Rc} (h : lastR m (r :: l) = some x) : lastR m l = some x ∨ (lastR m l = none ∧ r.mac = m ∧ x = r) := by
  unfold lastR at h
  cases e : lastR m l with
  | some y => rw [e] at h; exact .inl h
  | none =>
    rw [e] at h
    by_cases hr : r.mac = m
    · simp [hr] at h; exact .inr ⟨rfl, hr, h.symm⟩
    · simp [hr] at h
theorem no_more {m : Int} {l : List Rc} {pm : Option Int} {A B : Int} (h : lastR m (closeL pm A B l) = none) : ∀ s ∈ l, s.mac ≠ m := fun s hs e => by
  have h1 : m ∈ (closeL pm A B l).map Rc.mac := by rw [close_macs, ← e]; exact List.mem_map.2 ⟨s, hs, rfl⟩
  obtain ⟨y, hy, e2⟩ := List.mem_map.1 h1
  exact lastR_none h y hy e2
/-- The state at a record, where its machine is the one that is counted. -/
structure KAt (r : Rc) (A B : Int) (fr : Rc) (bt : List Rc) (ls lc q : Int) : Prop where
  cnt : A = fr.a + nS bt + ls
  coi : B = fr.b + cS bt + lc
  bd : 0 ≤ ls ∧ 0 ≤ lc ∧ lc ≤ 10000 * ls
  room : bt.length + ls ≤ q - fr.seq
  nxt : q < r.seq
theorem KSt.at_ {r : Rc} {l : List Rc} {pm pl : Option Int} {A B ls lc q : Int} {fr : Rc} {bt : List Rc} (h : KSt (r :: l) pm A B pl fr bt ls lc q) (hr : RcOk r) :
    KAt r (if pm = some r.mac then A else 0) (if pm = some r.mac then B else 0) (if pl = some r.mac then fr else zeroR r.mac) (if pl = some r.mac then bt else []) (if pm = some r.mac then ls else 0) (if pm = some r.mac then lc else 0) (if pm = some r.mac then q else 0) := by
  by_cases e : pm = some r.mac
  · simp only [if_pos e]
    exact ⟨h.cnt _ e, h.coi _ e, h.bd, h.room _ e, h.nxt _ e r (by simp) rfl⟩
  · have e2 : ¬ pl = some r.mac := fun e2 => h.old _ e2 e r (by simp) rfl
    simp only [if_neg e, if_neg e2]
    have := hr.seq
    exact ⟨by simp [zeroR, nS], by simp [zeroR, cS], by omega, by simp [zeroR], by omega⟩
section
variable {r : Rc} {l : List Rc} {pm pl : Option Int} {A B ls lc q : Int} {fr : Rc} {bt : List Rc}
theorem rlt_nxt (hs : ∀ s ∈ l, Rlt r s) : ∀ m, some r.mac = some m → ∀ s ∈ l, s.mac = m → r.seq < s.seq := fun m hm s h e => by
  cases hm
  rcases hs s h with h1 | h1
  · omega
  · exact h1.2.1
theorem rlt_low (hs : ∀ s ∈ l, Rlt r s) : ∀ m, some r.mac = some m → ∀ s ∈ l, m ≤ s.mac := fun m hm s h => by
  cases hm
  rcases hs s h with h1 | h1 <;> omega
theorem KAt.kept (h : KAt r A B fr bt ls lc q) (hs : ∀ s ∈ l, Rlt r s) : KSt l (some r.mac) (A + if r.kind = 0 then 1 else 0) (B + if r.kind = 0 then r.b else 0) (some r.mac) fr (bt ++ [r]) ls lc r.seq := by
  have h1 := h.cnt
  have h2 := h.coi
  have h3 := h.room
  have h4 := h.nxt
  refine ⟨fun m hm => ?_, fun m hm => ?_, h.bd, fun m hm => ?_, rlt_nxt hs, rlt_low hs, fun m hm hn => absurd hm hn⟩
  · cases hm
    rw [if_pos rfl, if_pos rfl, nS_snoc]
    omega
  · cases hm
    rw [if_pos rfl, if_pos rfl, cS_snoc]
    omega
  · cases hm
    rw [if_pos rfl, if_pos rfl, List.length_append]
    simp only [List.length_cons, List.length_nil]
    omega
theorem KAt.lost (h : KAt r A B (if pl = some r.mac then fr else zeroR r.mac) (if pl = some r.mac then bt else []) ls lc q) (hr : RcOk r) (k0 : r.kind = 0) (hs : ∀ s ∈ l, Rlt r s) (ho : ∀ m, pl = some m → m ≠ r.mac → ∀ s ∈ l, s.mac ≠ m) :
    KSt l (some r.mac) (A + 1) (B + r.b) pl fr bt (ls + 1) (lc + r.b) r.seq := by
  have h1 := h.cnt
  have h2 := h.coi
  have h3 := h.room
  have h4 := h.nxt
  have h5 := h.bd
  have hb : 0 ≤ r.b ∧ r.b ≤ 10000 := by
    rcases hr.kind with h | h | h
    · exact h.2.2
    · omega
    · omega
  refine ⟨fun m hm => ?_, fun m hm => ?_, by omega, fun m hm => ?_, rlt_nxt hs, rlt_low hs, fun m hm hn => ho m hm (fun e => hn (by rw [e]))⟩
  · cases hm
    omega
  · cases hm
    omega
  · cases hm
    omega
theorem KAt.close (h : KAt r A B fr bt ls lc q) (hs : ∀ s ∈ l, Rlt r s) {r' : Rc} (ha : r'.a = A) (hb : r'.b = B) (hq : r'.seq = r.seq) : KSt l (some r.mac) A B (some r.mac) r' [] 0 0 r.seq := by
  refine ⟨fun m hm => ?_, fun m hm => ?_, by omega, fun m hm => ?_, rlt_nxt hs, rlt_low hs, fun m hm hn => absurd hm hn⟩
  · cases hm
    rw [if_pos rfl, if_pos rfl, ha]
    simp [nS]
  · cases hm
    rw [if_pos rfl, if_pos rfl, hb]
    simp [cS]
  · cases hm
    rw [if_pos rfl, if_pos rfl, hq]
    simp
end
theorem kept_ind (p : Nat → Bool) : ∀ (l : List Rc) (i : Nat) (pm : Option Int) (A B : Int) (pl : Option Int) (fr : Rc) (bt : List Rc) (ls lc q : Int), (∀ r ∈ l, RcOk r) → l.Pairwise Rlt → KSt l pm A B pl fr bt ls lc q →
    (∀ s ∈ strL pl fr bt (keepL p i (closeL pm A B l)), canOf s.1 s.2.1 s.2.2) ∧
    ∀ m x, lastR m (closeL pm A B l) = some x → x.kind = 2 →
      knC m (keepL p i (closeL pm A B l)) + lkC m (strL pl fr bt (keepL p i (closeL pm A B l))) = x.b - (if pm = some m then B - lc else 0) ∧
      knN m (keepL p i (closeL pm A B l)) + lkN m (strL pl fr bt (keepL p i (closeL pm A B l))) = x.a - (if pm = some m then A - ls else 0)
  | [], i, pm, A, B, pl, fr, bt, ls, lc, q, _, _, _ => ⟨fun s hs => (by simp [closeL, keepL, strL] at hs), fun m x h => (by simp [closeL, lastR] at h)⟩
  | r :: l, i, pm, A, B, pl, fr, bt, ls, lc, q, hok, hpw, hst => by
    have hr := hok r (by simp)
    have hok2 : ∀ s ∈ l, RcOk s := fun s hs => hok s (by simp [hs])
    have hpw2 := List.pairwise_cons.1 hpw
    have hat := hst.at_ hr
    have hold : ∀ m, pl = some m → m ≠ r.mac → ∀ s ∈ l, s.mac ≠ m := fun m hm hne s hs => by
      by_cases e : pm = some m
      · have h1 := hst.low m e r (by simp)
        rcases hpw2.1 s hs with h2 | h2 <;> omega
      · exact hst.old m hm e s (by simp [hs])
    -- another machine: it comes later
    have hgone : ∀ m, m ≠ r.mac → pm = some m → ∀ s ∈ l, s.mac ≠ m := fun m hne e s hs => by
      have h1 := hst.low m e r (by simp)
      rcases hpw2.1 s hs with h2 | h2 <;> omega
    have hbase : (if pm = some r.mac then B - lc else 0) = (if pm = some r.mac then B else 0) - (if pm = some r.mac then lc else 0) := by
      split <;> omega
    have hbaseA : (if pm = some r.mac then A - ls else 0) = (if pm = some r.mac then A else 0) - (if pm = some r.mac then ls else 0) := by
      split <;> omega
    by_cases k0 : r.kind = 0
    · by_cases hp : p i = true
      · have ih := kept_ind p l (i + 1) _ _ _ _ _ _ _ _ _ hok2 hpw2.2 (hat.kept hpw2.1)
        rw [if_pos k0, if_pos k0] at ih
        rw [closeL_sale k0, keepL_yes (.inr hp), strL_other (by omega)]
        refine ⟨ih.1, fun m x hx hk => ?_⟩
        rcases lastR_cons hx with h | ⟨_, _, rfl⟩
        · have h2 := ih.2 m x h hk
          rw [knC_cons, knN_cons]
          by_cases em : m = r.mac
          · subst em
            rw [hbase, hbaseA]
            simp only [k0, and_self, if_true] at h2 ⊢
            omega
          · have e1 : ¬ (r.mac = m ∧ r.kind = 0) := fun h => em h.1.symm
            have e2 : ¬ some r.mac = some m := fun h => em (Option.some.inj h).symm
            have e3 : ¬ pm = some m := fun e => by rw [close_mac m l _ _ _ (hgone m em e)] at h; cases h
            rw [if_neg e2, if_neg e2] at h2
            rw [if_neg e1, if_neg e1, if_neg e3, if_neg e3]
            omega
        · omega
      · have ih := kept_ind p l (i + 1) _ _ _ pl fr bt _ _ _ hok2 hpw2.2 (hat.lost hr k0 hpw2.1 hold)
        rw [closeL_sale k0, keepL_no k0 hp]
        refine ⟨ih.1, fun m x hx hk => ?_⟩
        rcases lastR_cons hx with h | ⟨_, _, rfl⟩
        · have h2 := ih.2 m x h hk
          by_cases em : m = r.mac
          · subst em
            rw [hbase, hbaseA]
            simp only [if_true] at h2 ⊢
            omega
          · have e2 : ¬ some r.mac = some m := fun h => em (Option.some.inj h).symm
            have e3 : ¬ pm = some m := fun e => by rw [close_mac m l _ _ _ (hgone m em e)] at h; cases h
            rw [if_neg e2, if_neg e2] at h2
            rw [if_neg e3, if_neg e3]
            omega
        · omega
    · by_cases k2 : r.kind = 2
      · obtain ⟨A', hA'⟩ : ∃ a, (if pm = some r.mac then A else 0) = a := ⟨_, rfl⟩
        obtain ⟨B', hB'⟩ : ∃ a, (if pm = some r.mac then B else 0) = a := ⟨_, rfl⟩
        rw [closeL_close k2]
        rw [hA', hB'] at hat ⊢
        rw [hB'] at hbase
        rw [hA'] at hbaseA
        obtain ⟨r', hr'⟩ : ∃ r' : Rc, { r with a := A', b := B' } = r' := ⟨_, rfl⟩
        rw [hr']
        have f1 : r'.mac = r.mac := by rw [← hr']
        have f2 : r'.seq = r.seq := by rw [← hr']
        have f3 : r'.kind = r.kind := by rw [← hr']
        have f4 : r'.a = A' := by rw [← hr']
        have f5 : r'.b = B' := by rw [← hr']
        have ih := kept_ind p l (i + 1) _ _ _ _ _ _ _ _ _ hok2 hpw2.2 (hat.close hpw2.1 f4 f5 f2)
        rw [keepL_yes (.inl (by omega)), strL_close (by omega), f1]
        obtain ⟨F0, hF0⟩ : ∃ f, (if pl = some r.mac then fr else zeroR r.mac) = f := ⟨_, rfl⟩
        obtain ⟨T0, hT0⟩ : ∃ f, (if pl = some r.mac then bt else []) = f := ⟨_, rfl⟩
        obtain ⟨ls', hls'⟩ : ∃ f, (if pm = some r.mac then ls else 0) = f := ⟨_, rfl⟩
        obtain ⟨lc', hlc'⟩ : ∃ f, (if pm = some r.mac then lc else 0) = f := ⟨_, rfl⟩
        rw [hF0, hT0, hls', hlc'] at hat
        rw [hF0, hT0]
        rw [hlc'] at hbase
        rw [hls'] at hbaseA
        have g1 := hat.cnt
        have g2 := hat.coi
        have g3 := hat.bd
        have g4 := hat.room
        have g5 := hat.nxt
        have s1 : (lackOf F0 T0 r').sales = ls' := by simp only [lackOf, f4]; omega
        have s2 : (lackOf F0 T0 r').coins = lc' := by simp only [lackOf, f5]; omega
        refine ⟨fun s hs => ?_, fun m x hx hk => ?_⟩
        · rcases List.mem_cons.1 hs with rfl | hs
          · unfold canOf
            simp only [s1, s2, f2]
            omega
          · exact ih.1 s hs
        · have e0 : ¬ (r'.mac = m ∧ r'.kind = 0) := fun h => by omega
          rw [knC_cons, knN_cons, lkC_cons, lkN_cons, if_neg e0, if_neg e0]
          simp only [s1, s2, f1]
          rcases lastR_cons hx with h | ⟨h, h3, rfl⟩
          · have h2 := ih.2 m x h hk
            by_cases em : m = r.mac
            · subst em
              rw [hbase, hbaseA]
              simp only [if_true] at h2 ⊢
              omega
            · have e1 : ¬ r.mac = m := fun h => em h.symm
              have e2 : ¬ some r.mac = some m := fun h => em (Option.some.inj h).symm
              have e3 : ¬ pm = some m := fun e => by rw [close_mac m l _ _ _ (hgone m em e)] at h; cases h
              rw [if_neg e2, if_neg e2] at h2
              rw [if_neg e1, if_neg e1, if_neg e3, if_neg e3]
              omega
          · have hn := keep_none m p l (i + 1) (some r.mac) A' B' (some r.mac) x [] (no_more h)
            obtain ⟨n1, n2, n3, n4⟩ := hn
            have em : m = r.mac := by omega
            subst em
            rw [n1, n2, n3, n4, hbase, hbaseA, if_pos rfl, if_pos rfl]
            omega
      · have hkk := hat.kept (l := l) hpw2.1
        rw [if_neg k0, if_neg k0, Int.add_zero, Int.add_zero] at hkk
        have ih := kept_ind p l (i + 1) _ _ _ _ _ _ _ _ _ hok2 hpw2.2 hkk
        rw [closeL_other k0 k2, keepL_yes (.inl k0), strL_other k2]
        refine ⟨ih.1, fun m x hx hk => ?_⟩
        rcases lastR_cons hx with h | ⟨_, _, rfl⟩
        · have h2 := ih.2 m x h hk
          have e1 : ¬ (r.mac = m ∧ r.kind = 0) := fun h => k0 h.2
          rw [knC_cons, knN_cons, if_neg e1, if_neg e1]
          by_cases em : m = r.mac
          · subst em
            rw [hbase, hbaseA]
            simp only [if_true] at h2 ⊢
            omega
          · have e2 : ¬ some r.mac = some m := fun h => em (Option.some.inj h).symm
            have e3 : ¬ pm = some m := fun e => by rw [close_mac m l _ _ _ (hgone m em e)] at h; cases h
            rw [if_neg e2, if_neg e2] at h2
            rw [if_neg e3, if_neg e3]
            omega
        · omega
theorem KSt.start (l : List Rc) : KSt l none 0 0 none (zeroR 0) [] 0 0 0 :=
  ⟨fun m h => (by cases h), fun m h => (by cases h), by omega, fun m h => (by cases h), fun m h => (by cases h), fun m h => (by cases h), fun m h => (by cases h)⟩
theorem kept_all {F : List Rc} (hok : ∀ r ∈ F, RcOk r) (hpw : F.Pairwise Rlt) (p : Nat → Bool) :
    (∀ s ∈ strL none (zeroR 0) [] (keepL p 0 (closeL none 0 0 F)), canOf s.1 s.2.1 s.2.2) ∧
    ∀ m x, lastR m (closeL none 0 0 F) = some x → x.kind = 2 →
      knC m (keepL p 0 (closeL none 0 0 F)) + lkC m (strL none (zeroR 0) [] (keepL p 0 (closeL none 0 0 F))) = x.b ∧
      knN m (keepL p 0 (closeL none 0 0 F)) + lkN m (strL none (zeroR 0) [] (keepL p 0 (closeL none 0 0 F))) = x.a := by
  have h := kept_ind p F 0 none 0 0 none (zeroR 0) [] 0 0 0 hok hpw (KSt.start F)
  refine ⟨h.1, fun m x h1 h2 => ?_⟩
  have h3 := h.2 m x h1 h2
  simp only [reduceCtorEq, if_false, Int.sub_zero] at h3
  exact h3
end Go.Proofs.YtckgapeednokjaaGreat
