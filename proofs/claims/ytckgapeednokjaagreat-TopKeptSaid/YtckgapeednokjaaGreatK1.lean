set_option linter.unusedVariables false
set_option linter.unusedSimpArgs false
set_option linter.unnecessarySimpa false
set_option linter.unusedSectionVars false
namespace Go.Proofs.YtckgapeednokjaaGreat

/-! ### A day, its segments, pieces, work: plain -/
structure Rel where
  place : Int
  lo : Int
  hi : Int
structure DLaw where
  piece : Int
  drive : Int
  spread : Int
  brk : Int
  on : Int
  off : Int
  least : Int
  pieces : Int
structure DDay where
  law : DLaw
  blocks : List (List Rel)
  walk : List (List Int)
def Rel.none : Rel := ⟨0, 0, 0⟩

def inD (n lo hi : Int) : Bool := decide (lo ≤ n ∧ n ≤ hi)
theorem inD_iff {n lo hi : Int} : inD n lo hi = true ↔ lo ≤ n ∧ n ≤ hi := by simp [inD]

def segN : List (List Rel) → Nat
  | [] => 0
  | l :: t => (l.length - 1) + segN t
/-- The segments: the block, and the first relief. -/
def segsFrom : Nat → List (List Rel) → List (Nat × Nat)
  | _, [] => []
  | b, l :: t => (List.range (l.length - 1)).map (fun i => (b, i)) ++ segsFrom (b + 1) t
def segs (bl : List (List Rel)) : List (Nat × Nat) := segsFrom 0 bl
theorem segsFrom_length : ∀ (bl : List (List Rel)) (b : Nat), (segsFrom b bl).length = segN bl
  | [], b => rfl
  | l :: t, b => by simp [segsFrom, segN, segsFrom_length t]
theorem segs_length (bl : List (List Rel)) : (segs bl).length = segN bl := segsFrom_length bl 0

def lawB (l : DLaw) : Bool := inD l.piece 0 3000 && (inD l.drive 0 3000 && (inD l.spread 0 3000 && (inD l.brk 0 3000 && (inD l.on 0 3000 && (inD l.off 0 3000 && (inD l.least 0 3000 && (decide (0 < l.brk) && inD l.pieces 1 3)))))))
def reliefB (places : Nat) (r : Rel) : Bool := inD r.place 0 (places - 1) && (decide (0 ≤ r.lo) && (decide (r.lo ≤ r.hi) && inD r.hi 0 3000))
def risesB : List Rel → Bool
  | [] => true
  | [_] => true
  | a :: b :: t => decide (a.lo ≤ b.lo) && (decide (a.hi ≤ b.hi) && risesB (b :: t))
def blockB (places : Nat) (l : List Rel) : Bool := risesB l && (decide (2 ≤ l.length) && l.all (reliefB places))
def rowOk (n a : Nat) (row : List Int) : Bool := decide (row.length = n) && ((row.all fun x => inD x 0 3000) && (row[a]?.getD 1 == 0))
def walksB (w : List (List Int)) : Bool := ((List.range w.length).all fun a => rowOk w.length a (w[a]?.getD [])) && decide (0 < w.length)
def faultD (d : DDay) : Int :=
  if 6 < d.blocks.length ∨ 5 < d.walk.length ∨ 10 < segN d.blocks then 3
  else if lawB d.law && (walksB d.walk && d.blocks.all (blockB d.walk.length)) then 0 else 1

def relAt (bl : List (List Rel)) (b i : Nat) : Rel := (bl[b]?.getD [])[i]?.getD Rel.none
def loT (bl : List (List Rel)) (b i : Nat) : Int := (relAt bl b i).lo
def hiT (bl : List (List Rel)) (b i : Nat) : Int := (relAt bl b i).hi

/-- A piece: its block, its first and last relief, its first segment. -/
structure Pc where
  b : Nat
  fr : Nat
  to : Nat
  first : Nat
deriving DecidableEq

def addP : List Pc → Nat × Nat → Nat → List Pc
  | [], s, n => [⟨s.1, s.2, s.2 + 1, n⟩]
  | [p], s, n => if p.b = s.1 ∧ p.to = s.2 then [{ p with to := s.2 + 1 }] else [p, ⟨s.1, s.2, s.2 + 1, n⟩]
  | p :: q :: t, s, n => p :: addP (q :: t) s n
/-- The pieces of a list of segments, as they come. -/
def rawP (sg : List (Nat × Nat)) (l : List Nat) : List Pc := l.foldl (fun ps n => addP ps (sg[n]?.getD (0, 0)) n) []
def bef (bl : List (List Rel)) (p q : Pc) : Bool := decide (loT bl p.b p.fr < loT bl q.b q.fr) || (decide (loT bl p.b p.fr = loT bl q.b q.fr) && decide (p.first < q.first))
def insP (bl : List (List Rel)) (p : Pc) : List Pc → List Pc
  | [] => [p]
  | q :: t => if bef bl p q then p :: q :: t else q :: insP bl p t
def srtP (bl : List (List Rel)) (ps : List Pc) : List Pc := ps.foldl (fun a p => insP bl p a) []
/-- The pieces of a duty, in order. -/
def piecesL (d : DDay) (l : List Nat) : List Pc := srtP d.blocks (rawP (segs d.blocks) l)
def bitsL (n x : Nat) : List Nat := (List.range n).filter fun i => x.testBit i

def durP (tb te : Nat → Nat → Int) (p : Pc) : Int := te p.b p.to - tb p.b p.fr
def sumD : List Int → Int
  | [] => 0
  | a :: l => a + sumD l
def driveP (tb te : Nat → Nat → Int) (ps : List Pc) : Int := sumD (ps.map (durP tb te))
def breaksP (tb te : Nat → Nat → Int) : List Pc → List Int
  | [] => []
  | [_] => []
  | p :: q :: t => (tb q.b q.fr - te p.b p.to) :: breaksP tb te (q :: t)
def walkAt (w : List (List Int)) (a b : Int) : Int := (w[a.toNat]?.getD [])[b.toNat]?.getD 0
def gapP (d : DDay) (p q : Pc) : Int := walkAt d.walk (relAt d.blocks p.b p.to).place (relAt d.blocks q.b q.fr).place
def restsP (d : DDay) (tb te : Nat → Nat → Int) : List Pc → List Int
  | [] => []
  | [_] => []
  | p :: q :: t => (tb q.b q.fr - te p.b p.to - gapP d p q) :: restsP d tb te (q :: t)
def spreadP (d : DDay) (tb te : Nat → Nat → Int) (ps : List Pc) : Int :=
  match ps.head?, ps.getLast? with
  | some p, some q => te q.b q.to + d.law.off - tb p.b p.fr + d.law.on
  | _, _ => d.law.off + d.law.on
def obeysB (d : DDay) (tb te : Nat → Nat → Int) (ps : List Pc) : Bool :=
  decide ((ps.length : Int) ≤ d.law.pieces) && ((ps.all fun p => decide (durP tb te p ≤ d.law.piece)) && (decide (driveP tb te ps ≤ d.law.drive) && (((restsP d tb te ps).all fun n => decide (d.law.brk ≤ n)) && decide (spreadP d tb te ps ≤ d.law.spread))))
def legalL (d : DDay) (l : List Nat) : Bool := obeysB d (loT d.blocks) (hiT d.blocks) (piecesL d l)
def payL (d : DDay) (l : List Nat) : Int := max (spreadP d (loT d.blocks) (hiT d.blocks) (piecesL d l)) d.law.least

/-! The order of pieces -/
theorem bef_irrefl (bl : List (List Rel)) (p : Pc) : bef bl p p = false := by simp [bef]
theorem bef_trans {bl : List (List Rel)} {p q r : Pc} (h1 : bef bl p q = true) (h2 : bef bl q r = true) : bef bl p r = true := by
  simp only [bef, Bool.or_eq_true, Bool.and_eq_true, decide_eq_true_eq] at *
  omega
theorem bef_total {bl : List (List Rel)} {p q : Pc} (h : p.first ≠ q.first) : bef bl p q = true ∨ bef bl q p = true := by
  simp only [bef, Bool.or_eq_true, Bool.and_eq_true, decide_eq_true_eq]
  omega
theorem insP_perm (bl : List (List Rel)) (p : Pc) : ∀ l : List Pc, (insP bl p l).Perm (p :: l)
  | [] => List.Perm.refl _
  | q :: t => by
    simp only [insP]
    split
    · exact List.Perm.refl _
    · exact ((insP_perm bl p t).cons q).trans (List.Perm.swap p q t)
theorem srtP_perm (bl : List (List Rel)) (ps : List Pc) : (srtP bl ps).Perm ps := by
  unfold srtP
  have : ∀ (ps a : List Pc), (ps.foldl (fun a p => insP bl p a) a).Perm (ps ++ a) := by
    intro ps
    induction ps with
    | nil => intro a; exact List.Perm.refl _
    | cons p t ih =>
      intro a
      simp only [List.foldl_cons]
      refine (ih _).trans ?_
      refine ((insP_perm bl p a).append_left t).trans ?_
      simpa using (List.perm_middle (a := p) (l₁ := t) (l₂ := a))
  simpa using this ps []
theorem insP_sorted (bl : List (List Rel)) (p : Pc) : ∀ l : List Pc, (∀ q ∈ l, q.first ≠ p.first) → l.Pairwise (fun a b => bef bl a b = true) → (insP bl p l).Pairwise (fun a b => bef bl a b = true)
  | [], _, _ => by simp [insP]
  | q :: t, hne, h => by
    simp only [insP]
    rw [List.pairwise_cons] at h
    split
    · rename_i hb
      rw [List.pairwise_cons]
      refine ⟨fun r hr => ?_, List.pairwise_cons.2 h⟩
      rcases List.mem_cons.1 hr with rfl | hr
      · exact hb
      · exact bef_trans hb (h.1 r hr)
    · rename_i hb
      rw [List.pairwise_cons]
      refine ⟨fun r hr => ?_, insP_sorted bl p t (fun r hr => hne r (by simp [hr])) h.2⟩
      rcases List.mem_cons.1 ((insP_perm bl p t).mem_iff.1 hr) with rfl | hr
      · rcases bef_total (bl := bl) (hne q (by simp)) with h3 | h3
        · exact h3
        · exact absurd h3 hb
      · exact h.1 r hr
theorem srtP_sorted (bl : List (List Rel)) (ps : List Pc) (hn : (ps.map (·.first)).Nodup) : (srtP bl ps).Pairwise (fun a b => bef bl a b = true) := by
  unfold srtP
  have : ∀ (ps a : List Pc), ((ps ++ a).map (·.first)).Nodup → a.Pairwise (fun a b => bef bl a b = true) → (ps.foldl (fun a p => insP bl p a) a).Pairwise (fun a b => bef bl a b = true) := by
    intro ps
    induction ps with
    | nil => intro a _ h; exact h
    | cons p t ih =>
      intro a hn h
      simp only [List.foldl_cons]
      have hp : (t ++ insP bl p a).Perm (p :: t ++ a) := by
        refine ((insP_perm bl p a).append_left t).trans ?_
        simpa using (List.perm_middle (a := p) (l₁ := t) (l₂ := a))
      refine ih _ ((hp.map _).nodup_iff.2 hn) (insP_sorted bl p a (fun q hq e => ?_) h)
      simp only [List.cons_append, List.map_cons, List.nodup_cons] at hn
      exact hn.1 (by rw [← e]; exact List.mem_map.2 ⟨q, by simp [hq], rfl⟩)
  exact this ps [] (by simpa using hn) List.Pairwise.nil
/-- Lists in a strict order with the same elements are one. -/
theorem sorted_unique {bl : List (List Rel)} : ∀ {a b : List Pc}, a.Perm b → a.Pairwise (fun x y => bef bl x y = true) → b.Pairwise (fun x y => bef bl x y = true) → a = b
  | [], b, h, _, _ => by simpa using h.symm.eq_nil.symm
  | x :: t, [], h, _, _ => by simpa using h.eq_nil
  | x :: t, y :: u, h, h1, h2 => by
    rw [List.pairwise_cons] at h1 h2
    have e : x = y := by
      rcases List.mem_cons.1 (h.mem_iff.1 (by simp : x ∈ x :: t)) with e | e
      · exact e
      · rcases List.mem_cons.1 (h.mem_iff.2 (by simp : y ∈ y :: u)) with e2 | e2
        · exact e2.symm
        · have a1 := h2.1 x e
          have a2 := h1.1 y e2
          have := bef_trans a1 a2
          rw [bef_irrefl] at this
          cases this
    subst e
    rw [sorted_unique (List.perm_cons x |>.1 h) h1.2 h2.2]

/-! Where a segment lies -/
def offB (bl : List (List Rel)) (b : Nat) : Nat := segN (bl.take b)
theorem segsFrom_get : ∀ (bl : List (List Rel)) (b0 n b i : Nat), (segsFrom b0 bl)[n]? = some (b, i) ↔ ∃ c, b = b0 + c ∧ c < bl.length ∧ i + 1 < (bl[c]?.getD []).length ∧ n = segN (bl.take c) + i
  | [], b0, n, b, i => by simp [segsFrom]
  | l :: t, b0, n, b, i => by
    simp only [segsFrom]
    rw [List.getElem?_append]
    by_cases h : n < ((List.range (l.length - 1)).map fun i => (b0, i)).length
    · rw [if_pos h]
      have hn : n < l.length - 1 := by simpa using h
      rw [List.getElem?_map, List.getElem?_range hn]
      constructor
      · intro e
        simp only [Option.map_some, Option.some.injEq, Prod.mk.injEq] at e
        exact ⟨0, by omega, by simp, by simp; omega, by simp [segN]; omega⟩
      · rintro ⟨c, rfl, hc, hi, rfl⟩
        cases c with
        | zero => simp [segN]
        | succ c =>
          exfalso
          simp only [List.take_succ_cons, segN] at hn
          omega
    · rw [if_neg h]
      have hn : l.length - 1 ≤ n := by simpa using h
      rw [segsFrom_get t (b0 + 1)]
      simp only [List.length_map, List.length_range]
      constructor
      · rintro ⟨c, rfl, hc, hi, e⟩
        exact ⟨c + 1, by omega, by simp; omega, by simpa using hi, by simp only [List.take_succ_cons, segN]; omega⟩
      · rintro ⟨c, rfl, hc, hi, e⟩
        cases c with
        | zero => simp [segN] at e hi; omega
        | succ c =>
          simp only [List.take_succ_cons, segN] at e
          exact ⟨c, by omega, by simpa using hc, by simpa using hi, by omega⟩
theorem segs_get {bl : List (List Rel)} {n b i : Nat} : (segs bl)[n]? = some (b, i) ↔ b < bl.length ∧ i + 1 < (bl[b]?.getD []).length ∧ n = offB bl b + i := by
  unfold segs
  rw [segsFrom_get]
  constructor
  · rintro ⟨c, rfl, h1, h2, h3⟩
    simp only [Nat.zero_add] at *
    exact ⟨h1, h2, h3⟩
  · rintro ⟨h1, h2, h3⟩
    exact ⟨b, by omega, h1, h2, h3⟩
theorem segs_next {bl : List (List Rel)} {n m b i : Nat} (h1 : (segs bl)[m]? = some (b, i)) (h2 : (segs bl)[n]? = some (b, i + 1)) : n = m + 1 := by
  have a := (segs_get.1 h1).2.2
  have b := (segs_get.1 h2).2.2
  omega
theorem segs_same {bl : List (List Rel)} {m b i c j : Nat} (h1 : (segs bl)[m]? = some (b, i)) (h2 : (segs bl)[m + 1]? = some (c, j)) (hb : b = c) : j = i + 1 := by
  subst hb
  have a := (segs_get.1 h1).2.2
  have b := (segs_get.1 h2).2.2
  omega
theorem segs_some {bl : List (List Rel)} {n : Nat} (h : n < segN bl) : ∃ b i, (segs bl)[n]? = some (b, i) ∧ b < bl.length ∧ i + 1 < (bl[b]?.getD []).length ∧ n = offB bl b + i := by
  have h' : n < (segs bl).length := by rw [segs_length]; exact h
  exact ⟨(segs bl)[n].1, (segs bl)[n].2, List.getElem?_eq_getElem h', segs_get.1 (List.getElem?_eq_getElem h')⟩

theorem addP_last : ∀ (ps : List Pc) (p : Pc) (s : Nat × Nat) (n : Nat), addP (ps ++ [p]) s n = if p.b = s.1 ∧ p.to = s.2 then ps ++ [{ p with to := s.2 + 1 }] else ps ++ [p, ⟨s.1, s.2, s.2 + 1, n⟩]
  | [], p, s, n => by simp only [List.nil_append, addP]
  | [q], p, s, n => by
    simp only [List.cons_append, List.nil_append, addP]
    split <;> rfl
  | q :: r :: t, p, s, n => by
    have := addP_last (r :: t) p s n
    simp only [List.cons_append, addP] at this ⊢
    rw [this]
    split <;> rfl
theorem rawP_snoc (sg : List (Nat × Nat)) (l : List Nat) (n : Nat) : rawP sg (l ++ [n]) = addP (rawP sg l) (sg[n]?.getD (0, 0)) n := by simp [rawP, List.foldl_append]

/-- What the pieces of a rising list are like. -/
structure RawOk (bl : List (List Rel)) (l : List Nat) : Prop where
  nonempty : l ≠ [] → rawP (segs bl) l ≠ []
  last : ∀ p m, (rawP (segs bl) l).getLast? = some p → l.getLast? = some m → 1 ≤ p.to ∧ (segs bl)[m]? = some (p.b, p.to - 1)
  first : ∀ p ∈ rawP (segs bl) l, p.first ∈ l
  asc : ((rawP (segs bl) l).map (·.first)).Pairwise (· < ·)
  ok : ∀ p ∈ rawP (segs bl) l, p.b < bl.length ∧ p.fr < p.to ∧ p.to < (bl[p.b]?.getD []).length ∧ p.first = offB bl p.b + p.fr
theorem raw_ok {bl : List (List Rel)} (l : List Nat) (hr : l.Pairwise (· < ·)) (hl : ∀ n ∈ l, n < segN bl) : RawOk bl l := by
  obtain ⟨k, hk⟩ : ∃ k, l.length = k := ⟨_, rfl⟩
  induction k generalizing l with
  | zero =>
    have : l = [] := List.eq_nil_of_length_eq_zero hk
    subst this
    exact ⟨fun h => absurd rfl h, fun p m h => by simp [rawP] at h, fun p h => by simp [rawP] at h, by simp [rawP], fun p h => by simp [rawP] at h⟩
  | succ k ih =>
    rcases List.eq_nil_or_concat l with rfl | ⟨t, n, rfl⟩
    · simp at hk
    · simp only [List.concat_eq_append] at *
      rw [List.pairwise_append] at hr
      have h := ih t hr.1 (fun m hm => hl m (by simp [hm])) (by simpa using hk)
      obtain ⟨b, i, hs, hb, hi, hn⟩ := segs_some (hl n (by simp))
      have hlt : ∀ m ∈ t, m < n := fun m hm => hr.2.2 m hm n (by simp)
      rcases List.eq_nil_or_concat (rawP (segs bl) t) with e | ⟨ps, p, e⟩
      · have e2 : rawP (segs bl) (t ++ [n]) = [⟨b, i, i + 1, n⟩] := by rw [rawP_snoc, e, hs]; rfl
        refine ⟨fun _ => by rw [e2]; simp, fun p m hp hm => ?_, fun p hp => ?_, by rw [e2]; simp, fun p hp => ?_⟩
        · rw [e2] at hp
          simp at hp hm
          subst hp hm
          exact ⟨by simp, by simpa using hs⟩
        · rw [e2] at hp
          simp at hp
          subst hp
          simp
        · rw [e2] at hp
          simp at hp
          subst hp
          exact ⟨hb, by simp, hi, hn⟩
      · simp only [List.concat_eq_append] at e
        have e2 : rawP (segs bl) (t ++ [n]) = if p.b = b ∧ p.to = i then ps ++ [{ p with to := i + 1 }] else ps ++ [p, ⟨b, i, i + 1, n⟩] := by rw [rawP_snoc, e, hs]; exact addP_last _ _ _ _
        have hp0 := h.ok p (by rw [e]; simp)
        have hf0 := h.first p (by rw [e]; simp)
        have hasc := h.asc
        rw [e] at hasc
        by_cases hc : p.b = b ∧ p.to = i
        · rw [if_pos hc] at e2
          obtain ⟨rfl, rfl⟩ := hc
          refine ⟨fun _ => by rw [e2]; simp, fun q m hq hm => ?_, fun q hq => ?_, by rw [e2]; simpa using hasc, fun q hq => ?_⟩
          · rw [e2] at hq
            simp at hq hm
            subst hq hm
            exact ⟨by simp, by simpa using hs⟩
          · rw [e2] at hq
            rcases List.mem_append.1 hq with hq | hq
            · have := h.first q (by rw [e]; simp [hq])
              simp [this]
            · simp at hq
              subst hq
              simp [hf0]
          · rw [e2] at hq
            rcases List.mem_append.1 hq with hq | hq
            · exact h.ok q (by rw [e]; simp [hq])
            · simp at hq
              subst hq
              exact ⟨hp0.1, by simp; omega, hi, hp0.2.2.2⟩
        · rw [if_neg hc] at e2
          refine ⟨fun _ => by rw [e2]; simp, fun q m hq hm => ?_, fun q hq => ?_, ?_, fun q hq => ?_⟩
          · rw [e2] at hq
            simp at hq hm
            subst hq hm
            exact ⟨by simp, by simpa using hs⟩
          · rw [e2] at hq
            rcases List.mem_append.1 hq with hq | hq
            · have := h.first q (by rw [e]; simp [hq])
              simp [this]
            · simp at hq
              rcases hq with rfl | rfl
              · simp [hf0]
              · simp
          · rw [e2, show ps ++ [p, ⟨b, i, i + 1, n⟩] = (ps ++ [p]) ++ [⟨b, i, i + 1, n⟩] by simp, List.map_append, List.pairwise_append]
            refine ⟨hasc, by simp, fun x hx y hy => ?_⟩
            obtain ⟨q, hq, rfl⟩ := List.mem_map.1 hx
            simp at hy
            subst hy
            exact hlt _ (h.first q (by rw [e]; exact hq))
          · rw [e2] at hq
            rcases List.mem_append.1 hq with hq | hq
            · exact h.ok q (by rw [e]; simp [hq])
            · simp at hq
              rcases hq with rfl | rfl
              · exact hp0
              · exact ⟨hb, by simp, hi, hn⟩
/-- The reference's test for one piece more, and the program's, are one. -/
theorem raw_test {bl : List (List Rel)} {l : List Nat} (hr : l.Pairwise (· < ·)) (hl : ∀ n ∈ l, n < segN bl) {p : Pc} {m n b i : Nat} (hp : (rawP (segs bl) l).getLast? = some p) (hm : l.getLast? = some m) (hs : (segs bl)[n]? = some (b, i)) :
    (p.b = b ∧ p.to = i) ↔ (m + 1 = n ∧ p.b = b) := by
  obtain ⟨h1, h2⟩ := (raw_ok l hr hl).last p m hp hm
  constructor
  · rintro ⟨rfl, rfl⟩
    have := segs_next h2 (n := n) (by rw [hs]; congr 2; omega)
    exact ⟨this.symm, rfl⟩
  · rintro ⟨rfl, hb⟩
    have := segs_same h2 hs hb
    exact ⟨hb, by omega⟩
theorem pieces_sorted {d : DDay} {l : List Nat} (hr : l.Pairwise (· < ·)) (hl : ∀ n ∈ l, n < segN d.blocks) : (piecesL d l).Pairwise (fun a b => bef d.blocks a b = true) :=
  srtP_sorted _ _ ((raw_ok l hr hl).asc.imp (fun h => Nat.ne_of_lt h))
end Go.Proofs.YtckgapeednokjaaGreat
namespace Go.Proofs.YtckgapeednokjaaGreat

/-! ### A valid day -/
structure RelOk (places : Nat) (r : Rel) : Prop where
  place : 0 ≤ r.place ∧ r.place < places
  lo : 0 ≤ r.lo ∧ r.lo ≤ r.hi
  hi : r.hi ≤ 3000
structure LawOk (l : DLaw) : Prop where
  piece : 0 ≤ l.piece ∧ l.piece ≤ 3000
  drive : 0 ≤ l.drive ∧ l.drive ≤ 3000
  spread : 0 ≤ l.spread ∧ l.spread ≤ 3000
  brk : 1 ≤ l.brk ∧ l.brk ≤ 3000
  on : 0 ≤ l.on ∧ l.on ≤ 3000
  off : 0 ≤ l.off ∧ l.off ≤ 3000
  least : 0 ≤ l.least ∧ l.least ≤ 3000
  pieces : 1 ≤ l.pieces ∧ l.pieces ≤ 3
structure DayOk (d : DDay) : Prop where
  blocks : d.blocks.length ≤ 6
  places : 1 ≤ d.walk.length ∧ d.walk.length ≤ 5
  segs : segN d.blocks ≤ 10
  law : LawOk d.law
  row : ∀ (a : Nat) (r : List Int), d.walk[a]? = some r → r.length = d.walk.length ∧ (∀ x ∈ r, 0 ≤ x ∧ x ≤ 3000) ∧ r[a]? = some 0
  two : ∀ (b : Nat) (l : List Rel), d.blocks[b]? = some l → 2 ≤ l.length
  rel : ∀ (b : Nat) (l : List Rel) (i : Nat) (r : Rel), d.blocks[b]? = some l → l[i]? = some r → RelOk d.walk.length r
  rise : ∀ (b : Nat) (l : List Rel) (i : Nat) (r s : Rel), d.blocks[b]? = some l → l[i]? = some r → l[i + 1]? = some s → r.lo ≤ s.lo ∧ r.hi ≤ s.hi

theorem lawB_iff {l : DLaw} : lawB l = true ↔ LawOk l := by
  simp only [lawB, Bool.and_eq_true, inD_iff, decide_eq_true_eq]
  constructor
  · rintro ⟨h1, h2, h3, h4, h5, h6, h7, h8, h9⟩
    exact ⟨h1, h2, h3, by omega, h5, h6, h7, h9⟩
  · intro h
    exact ⟨h.piece, h.drive, h.spread, by have := h.brk; omega, h.on, h.off, h.least, by have := h.brk; omega, h.pieces⟩
theorem reliefB_iff {n : Nat} {r : Rel} : reliefB n r = true ↔ RelOk n r := by
  simp only [reliefB, Bool.and_eq_true, inD_iff, decide_eq_true_eq]
  constructor
  · rintro ⟨h1, h2, h3, h4⟩
    exact ⟨by omega, ⟨h2, h3⟩, h4.2⟩
  · intro h
    exact ⟨by have := h.place; omega, h.lo.1, h.lo.2, by have := h.lo; omega, h.hi⟩
theorem risesB_iff : ∀ {l : List Rel}, risesB l = true ↔ ∀ (i : Nat) (r s : Rel), l[i]? = some r → l[i + 1]? = some s → r.lo ≤ s.lo ∧ r.hi ≤ s.hi
  | [] => by simp [risesB]
  | [a] => by simp [risesB]
  | a :: b :: t => by
    simp only [risesB, Bool.and_eq_true, decide_eq_true_eq]
    rw [risesB_iff (l := b :: t)]
    constructor
    · rintro ⟨h1, h2, h3⟩ i r s hr hs
      cases i with
      | zero =>
        simp at hr hs
        subst hr hs
        exact ⟨h1, h2⟩
      | succ i => exact h3 i r s (by simpa using hr) (by simpa using hs)
    · intro h
      have h0 := h 0 a b (by simp) (by simp)
      exact ⟨h0.1, h0.2, fun i r s hr hs => h (i + 1) r s (by simpa using hr) (by simpa using hs)⟩
theorem blockB_iff {n : Nat} {l : List Rel} : blockB n l = true ↔ 2 ≤ l.length ∧ (∀ (i : Nat) (r : Rel), l[i]? = some r → RelOk n r) ∧ ∀ (i : Nat) (r s : Rel), l[i]? = some r → l[i + 1]? = some s → r.lo ≤ s.lo ∧ r.hi ≤ s.hi := by
  simp only [blockB, Bool.and_eq_true, decide_eq_true_eq, List.all_eq_true]
  rw [risesB_iff]
  constructor
  · rintro ⟨h1, h2, h3⟩
    exact ⟨h2, fun i r hr => reliefB_iff.1 (h3 r (List.mem_of_getElem? hr)), h1⟩
  · rintro ⟨h1, h2, h3⟩
    refine ⟨h3, h1, fun r hr => ?_⟩
    obtain ⟨i, hi, rfl⟩ := List.getElem_of_mem hr
    exact reliefB_iff.2 (h2 i _ (List.getElem?_eq_getElem hi))
theorem rowOk_iff {n a : Nat} {r : List Int} : rowOk n a r = true ↔ r.length = n ∧ (∀ x ∈ r, 0 ≤ x ∧ x ≤ 3000) ∧ r[a]?.getD 1 = 0 := by
  simp only [rowOk, Bool.and_eq_true, decide_eq_true_eq, List.all_eq_true, inD_iff, beq_iff_eq]
theorem walksB_iff {w : List (List Int)} : walksB w = true ↔ 0 < w.length ∧ ∀ (a : Nat) (r : List Int), w[a]? = some r → r.length = w.length ∧ (∀ x ∈ r, 0 ≤ x ∧ x ≤ 3000) ∧ r[a]? = some 0 := by
  simp only [walksB, Bool.and_eq_true, decide_eq_true_eq, List.all_eq_true, List.mem_range, rowOk_iff]
  constructor
  · rintro ⟨h1, h2⟩
    refine ⟨h2, fun a r hr => ?_⟩
    have ha := (List.getElem?_eq_some_iff.1 hr).1
    have h := h1 a ha
    rw [hr, Option.getD_some] at h
    refine ⟨h.1, h.2.1, ?_⟩
    have ha' : a < r.length := by rw [h.1]; exact ha
    have h3 := h.2.2
    rw [List.getElem?_eq_getElem ha', Option.getD_some] at h3
    rw [List.getElem?_eq_getElem ha', h3]
  · rintro ⟨h1, h2⟩
    refine ⟨fun a ha => ?_, h1⟩
    have h := h2 a w[a] (List.getElem?_eq_getElem ha)
    rw [List.getElem?_eq_getElem ha, Option.getD_some]
    exact ⟨h.1, h.2.1, by rw [h.2.2]; rfl⟩
theorem day_ok {d : DDay} : faultD d = 0 ↔ DayOk d := by
  unfold faultD
  constructor
  · intro h
    split at h
    · omega
    · rename_i hn
      split at h
      · rename_i hb
        simp only [Bool.and_eq_true, List.all_eq_true] at hb
        obtain ⟨h1, h2, h3⟩ := hb
        obtain ⟨h4, h5⟩ := walksB_iff.1 h2
        exact ⟨by omega, by omega, by omega, lawB_iff.1 h1, h5, fun b l hl => (blockB_iff.1 (h3 l (List.mem_of_getElem? hl))).1,
          fun b l i r hl hr => (blockB_iff.1 (h3 l (List.mem_of_getElem? hl))).2.1 i r hr, fun b l i r s hl hr hs => (blockB_iff.1 (h3 l (List.mem_of_getElem? hl))).2.2 i r s hr hs⟩
      · omega
  · intro h
    have h1 := h.blocks
    have h2 := h.places
    have h3 := h.segs
    rw [if_neg (by omega), if_pos]
    simp only [Bool.and_eq_true, List.all_eq_true]
    refine ⟨lawB_iff.2 h.law, walksB_iff.2 ⟨by omega, h.row⟩, fun l hl => ?_⟩
    obtain ⟨b, hb, rfl⟩ := List.getElem_of_mem hl
    have hb' := List.getElem?_eq_getElem hb
    exact blockB_iff.2 ⟨h.two b _ hb', fun i r hr => h.rel b _ i r hb' hr, fun i r s hr hs => h.rise b _ i r s hb' hr hs⟩

section
variable {d : DDay} (h : DayOk d)
include h
theorem rel_at {b i : Nat} (hb : b < d.blocks.length) (hi : i < (d.blocks[b]?.getD []).length) : RelOk d.walk.length (relAt d.blocks b i) := by
  unfold relAt
  have hb' := List.getElem?_eq_getElem hb
  rw [hb', Option.getD_some] at hi ⊢
  rw [List.getElem?_eq_getElem hi, Option.getD_some]
  exact h.rel b _ i _ hb' (List.getElem?_eq_getElem hi)
theorem rel_any (b i : Nat) : 0 ≤ loT d.blocks b i ∧ loT d.blocks b i ≤ hiT d.blocks b i ∧ hiT d.blocks b i ≤ 3000 := by
  unfold loT hiT
  by_cases hb : b < d.blocks.length
  · by_cases hi : i < (d.blocks[b]?.getD []).length
    · have := rel_at h hb hi
      exact ⟨this.lo.1, this.lo.2, this.hi⟩
    · unfold relAt
      rw [List.getElem?_eq_none (by omega)]
      simp [Rel.none]
  · unfold relAt
    rw [List.getElem?_eq_none (by omega : d.blocks.length ≤ b)]
    simp [Rel.none]
/-- Along a block. -/
theorem rise_le {b i j : Nat} (hij : i ≤ j) (hj : j < (d.blocks[b]?.getD []).length) : loT d.blocks b i ≤ loT d.blocks b j ∧ hiT d.blocks b i ≤ hiT d.blocks b j := by
  induction j with
  | zero =>
    have : i = 0 := by omega
    subst this
    omega
  | succ j ih =>
    by_cases e : i = j + 1
    · subst e; omega
    · have h1 := ih (by omega) (by omega)
      cases hb : d.blocks[b]? with
      | none => rw [hb] at hj; simp at hj
      | some l =>
        rw [hb, Option.getD_some] at hj
        have h2 := h.rise b l j l[j] l[j + 1] hb (List.getElem?_eq_getElem (by omega)) (List.getElem?_eq_getElem hj)
        have e1 : relAt d.blocks b j = l[j] := by unfold relAt; rw [hb, Option.getD_some, List.getElem?_eq_getElem (by omega)]; rfl
        have e2 : relAt d.blocks b (j + 1) = l[j + 1] := by unfold relAt; rw [hb, Option.getD_some, List.getElem?_eq_getElem hj]; rfl
        unfold loT hiT at h1 ⊢
        rw [e2]
        rw [e1] at h1
        omega
theorem walk_any (a b : Int) : 0 ≤ walkAt d.walk a b ∧ walkAt d.walk a b ≤ 3000 := by
  unfold walkAt
  cases e : d.walk[a.toNat]? with
  | none => simp
  | some r =>
    rw [Option.getD_some]
    cases e2 : r[b.toNat]? with
    | none => simp
    | some x => exact (h.row _ r e).2.1 x (List.mem_of_getElem? e2)
end
end Go.Proofs.YtckgapeednokjaaGreat
namespace Go.Proofs.YtckgapeednokjaaGreat

/-! ### Sets of segments by bits; partitions; the cheapest ones: plain -/
def sub (x l : Nat) : Prop := x &&& l = x
theorem sub_bit {x l : Nat} (h : sub x l) {i : Nat} (hx : x.testBit i = true) : l.testBit i = true := by
  have := congrArg (fun z => z.testBit i) h
  simp only [Nat.testBit_and, hx, Bool.true_and] at this
  exact this
theorem sub_of_bits {x l : Nat} (h : ∀ i, x.testBit i = true → l.testBit i = true) : sub x l := by
  refine Nat.eq_of_testBit_eq fun i => ?_
  rw [Nat.testBit_and]
  cases hx : x.testBit i with
  | false => rfl
  | true => rw [h i hx]; rfl
theorem sub_refl (x : Nat) : sub x x := Nat.and_self x
theorem sub_le {x l : Nat} (h : sub x l) : x ≤ l := by
  have : x &&& l ≤ l := Nat.and_le_right
  rw [h] at this
  exact this
theorem rest_bit {x l : Nat} (h : sub x l) (i : Nat) : (l ^^^ x).testBit i = (l.testBit i && !x.testBit i) := by
  rw [Nat.testBit_xor]
  cases hx : x.testBit i with
  | false => simp
  | true => rw [sub_bit h hx]; rfl
theorem rest_sub {x l : Nat} (h : sub x l) : sub (l ^^^ x) l := sub_of_bits fun i hi => by
  rw [rest_bit h] at hi
  simp only [Bool.and_eq_true] at hi
  exact hi.1
theorem rest_lt {x l : Nat} (h : sub x l) (hx : x ≠ 0) : l ^^^ x < l := by
  rcases Nat.lt_or_ge (l ^^^ x) l with h1 | h1
  · exact h1
  · have h2 := sub_le (rest_sub h)
    have e : l ^^^ x = l := by omega
    exfalso
    apply hx
    have := congrArg (l ^^^ ·) e
    simpa [← Nat.xor_assoc] using this

/-- The next lesser set within l. -/
theorem next_sub : ∀ (l x y : Nat), sub x l → sub y l → y < x → y ≤ (x - 1) &&& l
  | l, x, y, hx, hy, h => by
    by_cases hl : l = 0
    · subst hl
      have := sub_le hx
      omega
    · have hx2 : sub (x / 2) (l / 2) := sub_of_bits fun i hi => by
        rw [Nat.testBit_div_two] at hi ⊢
        exact sub_bit hx hi
      have hy2 : sub (y / 2) (l / 2) := sub_of_bits fun i hi => by
        rw [Nat.testBit_div_two] at hi ⊢
        exact sub_bit hy hi
      have e : ((x - 1) &&& l) = 2 * (((x - 1) / 2) &&& (l / 2)) + ((x - 1) % 2) * (l % 2) := by
        have h1 : ((x - 1) &&& l) / 2 = ((x - 1) / 2) &&& (l / 2) := Nat.and_div_two
        have h2 : ((x - 1) &&& l) % 2 = ((x - 1) % 2) * (l % 2) := by
          have := Nat.testBit_and (x - 1) l 0
          simp only [Nat.testBit_zero] at this
          rcases Nat.mod_two_eq_zero_or_one (x - 1) with a | a <;> rcases Nat.mod_two_eq_zero_or_one l with b | b <;> rcases Nat.mod_two_eq_zero_or_one ((x - 1) &&& l) with c | c <;> simp_all
        omega
      have hyb : y % 2 ≤ l % 2 := by
        rcases Nat.mod_two_eq_zero_or_one y with c | c
        · omega
        · have := sub_bit hy (i := 0) (by simp [Nat.testBit_zero, c])
          simp [Nat.testBit_zero] at this
          omega
      rw [e]
      rcases Nat.mod_two_eq_zero_or_one x with a | a
      · have h1 := next_sub (l / 2) (x / 2) (y / 2) hx2 hy2 (by omega)
        have h2 : (x - 1) / 2 = x / 2 - 1 := by omega
        have h3 : (x - 1) % 2 = 1 := by omega
        rw [h2, h3]
        omega
      · have h2 : (x - 1) / 2 = x / 2 := by omega
        have h3 : (x - 1) % 2 = 0 := by omega
        rw [h2, h3, hx2]
        omega
termination_by l => l
decreasing_by omega
theorem next_is (l x : Nat) : sub ((x - 1) &&& l) l := by
  unfold sub
  rw [Nat.and_assoc, Nat.and_self]

def cnt (ds : List Nat) (i : Nat) : Nat := ds.countP fun x => x.testBit i
def sumI : List Int → Int
  | [] => 0
  | a :: l => a + sumI l
theorem sumI_perm {a b : List Int} (h : a.Perm b) : sumI a = sumI b := by
  induction h with
  | nil => rfl
  | cons x _ ih => simp [sumI, ih]
  | swap x y l => simp [sumI]; omega
  | trans _ _ ih1 ih2 => exact ih1.trans ih2

section
variable (legal : Nat → Bool) (pay : Nat → Int)
/-- Legal duties that have each segment of a set once. -/
structure Parts (l : Nat) (ds : List Nat) : Prop where
  legal : ∀ x ∈ ds, legal x = true ∧ x ≠ 0
  once : ∀ i, cnt ds i = if l.testBit i then 1 else 0

def lexLe (a b c d : Int) : Prop := a < c ∨ a = c ∧ b ≤ d
/-- The fewest duties, and of these the least pay. -/
def Min (l : Nat) (n p : Int) : Prop := (∃ ds, Parts legal l ds ∧ (ds.length : Int) = n ∧ sumI (ds.map pay) = p) ∧ ∀ ds, Parts legal l ds → lexLe n p ds.length (sumI (ds.map pay))
end

section
variable {legal : Nat → Bool} {pay : Nat → Int}
theorem Parts.sub {l : Nat} {ds : List Nat} (h : Parts legal l ds) {x : Nat} (hx : x ∈ ds) : sub x l := sub_of_bits fun i hi => by
  have := h.once i
  cases hl : l.testBit i with
  | true => rfl
  | false =>
    rw [hl] at this
    have h0 : 0 < cnt ds i := List.countP_pos_iff.2 ⟨x, hx, hi⟩
    simp at this
    omega
theorem Parts.nil : Parts legal 0 [] := ⟨by simp, fun i => by simp [cnt]⟩
theorem Parts.zero {ds : List Nat} (h : Parts legal 0 ds) : ds = [] := by
  cases ds with
  | nil => rfl
  | cons x t =>
    exfalso
    have h1 := sub_le (h.sub (x := x) (by simp))
    have h2 := (h.legal x (by simp)).2
    omega
theorem Parts.cons {l x : Nat} {ds : List Nat} (hx : legal x = true) (h0 : x ≠ 0) (hs : YtckgapeednokjaaGreat.sub x l) (h : Parts legal (l ^^^ x) ds) : Parts legal l (x :: ds) := by
  refine ⟨fun y hy => ?_, fun i => ?_⟩
  · rcases List.mem_cons.1 hy with rfl | hy
    · exact ⟨hx, h0⟩
    · exact h.legal y hy
  · have h1 := h.once i
    rw [rest_bit hs] at h1
    unfold cnt at h1 ⊢
    rw [List.countP_cons, h1]
    cases hb : x.testBit i with
    | true => rw [sub_bit hs hb]; simp
    | false => simp
theorem Parts.perm {l : Nat} {a b : List Nat} (h : Parts legal l a) (hp : a.Perm b) : Parts legal l b :=
  ⟨fun x hx => h.legal x (hp.mem_iff.2 hx), fun i => by rw [← h.once i]; exact (hp.countP_eq _).symm⟩
theorem Parts.uncons {l x : Nat} {ds : List Nat} (h : Parts legal l (x :: ds)) : Parts legal (l ^^^ x) ds := by
  have hs : YtckgapeednokjaaGreat.sub x l := h.sub (by simp)
  refine ⟨fun y hy => h.legal y (by simp [hy]), fun i => ?_⟩
  have h1 := h.once i
  rw [rest_bit hs]
  unfold cnt at h1 ⊢
  rw [List.countP_cons] at h1
  cases hb : x.testBit i with
  | true =>
    rw [sub_bit hs hb] at h1 ⊢
    simp [hb] at h1 ⊢
    exact h1
  | false =>
    simp [hb] at h1 ⊢
    exact h1
/-- The duty that has a segment, taken out. -/
theorem Parts.out {l : Nat} {ds : List Nat} (h : Parts legal l ds) {i : Nat} (hi : l.testBit i = true) : ∃ x ds', ds.Perm (x :: ds') ∧ x.testBit i = true ∧ legal x = true ∧ x ≠ 0 ∧ YtckgapeednokjaaGreat.sub x l ∧ Parts legal (l ^^^ x) ds' := by
  have h1 := h.once i
  rw [hi] at h1
  have h2 : 0 < cnt ds i := by simp at h1; omega
  obtain ⟨x, hx, hb⟩ := List.countP_pos_iff.1 h2
  have hp : ds.Perm (x :: ds.erase x) := List.perm_cons_erase hx
  exact ⟨x, ds.erase x, hp, hb, (h.legal x hx).1, (h.legal x hx).2, h.sub hx, (h.perm hp).uncons⟩
theorem min_unique {l : Nat} {n p n' p' : Int} (h : Min legal pay l n p) (h' : Min legal pay l n' p') : n = n' ∧ p = p' := by
  obtain ⟨⟨ds, h1, rfl, rfl⟩, h2⟩ := h
  obtain ⟨⟨ds', h3, rfl, rfl⟩, h4⟩ := h'
  have a := h2 _ h3
  have b := h4 _ h1
  unfold lexLe at a b
  omega
theorem min_zero : Min legal pay 0 0 0 := ⟨⟨[], Parts.nil, rfl, rfl⟩, fun ds h => by rw [h.zero]; right; simp [sumI]⟩

/-- What is known of a set: the first duty, how many, the pay, and whether there is a partition. -/
structure BV where
  first : Nat
  n : Int
  pay : Int
  can : Bool

structure Good (legal : Nat → Bool) (pay : Nat → Int) (l : Nat) (b : BV) : Prop where
  none : b.can = false → b.first = 0 ∧ b.n = 0 ∧ b.pay = 0 ∧ ∀ ds, ¬ Parts legal l ds
  some : b.can = true → Min legal pay l b.n b.pay
  next : b.can = true → l ≠ 0 → sub b.first l ∧ b.first ≠ 0 ∧ legal b.first = true ∧ Min legal pay (l ^^^ b.first) (b.n - 1) (b.pay - pay b.first)

/-- The best of those that were tried. -/
structure Tried (legal : Nat → Bool) (pay : Nat → Int) (l low : Nat) (done : Nat → Prop) (b : BV) : Prop where
  none : b.can = false → b.first = 0 ∧ b.n = 0 ∧ b.pay = 0 ∧ ∀ x, done x → sub x l → x.testBit low = true → legal x = true → ∀ ds, ¬ Parts legal (l ^^^ x) ds
  some : b.can = true → sub b.first l ∧ b.first ≠ 0 ∧ legal b.first = true ∧ Min legal pay (l ^^^ b.first) (b.n - 1) (b.pay - pay b.first) ∧
    ∀ x, done x → sub x l → x.testBit low = true → legal x = true → ∀ ds, Parts legal (l ^^^ x) ds → lexLe b.n b.pay (ds.length + 1) (sumI (ds.map pay) + pay x)

theorem good_zero : Good legal pay 0 ⟨0, 0, 0, true⟩ := ⟨(by simp), fun _ => min_zero, fun _ h => absurd rfl h⟩
theorem tried_start (l low : Nat) : Tried legal pay l low (fun _ => False) ⟨0, 0, 0, false⟩ := ⟨fun _ => ⟨rfl, rfl, rfl, fun x h => h.elim⟩, by simp⟩
theorem tried_skip {l low : Nat} {done : Nat → Prop} {b : BV} {x : Nat} (h : Tried legal pay l low done b) (hx : x.testBit low = false ∨ legal x = false) : Tried legal pay l low (fun y => done y ∨ y = x) b := by
  refine ⟨fun hc => ?_, fun hc => ?_⟩
  · obtain ⟨h1, h2, h3, h4⟩ := h.none hc
    refine ⟨h1, h2, h3, fun y hy hs hb hl => ?_⟩
    rcases hy with hy | rfl
    · exact h4 y hy hs hb hl
    · rcases hx with hx | hx <;> simp_all
  · obtain ⟨h1, h2, h3, h4, h5⟩ := h.some hc
    refine ⟨h1, h2, h3, h4, fun y hy hs hb hl => ?_⟩
    rcases hy with hy | rfl
    · exact h5 y hy hs hb hl
    · rcases hx with hx | hx <;> simp_all
theorem tried_no {l low : Nat} {done : Nat → Prop} {b r : BV} {x : Nat} (h : Tried legal pay l low done b) (hr : Good legal pay (l ^^^ x) r) (hc : r.can = false ∨ b.can = true ∧ lexLe b.n b.pay (r.n + 1) (r.pay + pay x)) : Tried legal pay l low (fun y => done y ∨ y = x) b := by
  refine ⟨fun hb => ?_, fun hb => ?_⟩
  · obtain ⟨h1, h2, h3, h4⟩ := h.none hb
    refine ⟨h1, h2, h3, fun y hy hs hbit hl => ?_⟩
    rcases hy with hy | rfl
    · exact h4 y hy hs hbit hl
    · rcases hc with hc | ⟨hc, _⟩
      · exact (hr.none hc).2.2.2
      · rw [hb] at hc; cases hc
  · obtain ⟨h1, h2, h3, h4, h5⟩ := h.some hb
    refine ⟨h1, h2, h3, h4, fun y hy hs hbit hl => ?_⟩
    rcases hy with hy | rfl
    · exact h5 y hy hs hbit hl
    · intro ds hds
      rcases hc with hc | ⟨_, hc⟩
      · exact absurd hds ((hr.none hc).2.2.2 ds)
      · cases hrc : r.can with
        | false => exact absurd hds ((hr.none hrc).2.2.2 ds)
        | true =>
          have := (hr.some hrc).2 ds hds
          unfold lexLe at hc this ⊢
          omega
theorem tried_take {l low : Nat} {done : Nat → Prop} {b r : BV} {x : Nat} (h : Tried legal pay l low done b) (hs : sub x l) (h0 : x ≠ 0) (hl : legal x = true) (hr : Good legal pay (l ^^^ x) r) (hc : r.can = true)
    (hb : b.can = false ∨ r.n + 1 < b.n ∨ r.n + 1 = b.n ∧ r.pay + pay x < b.pay) : Tried legal pay l low (fun y => done y ∨ y = x) ⟨x, r.n + 1, r.pay + pay x, true⟩ := by
  refine ⟨by simp, fun _ => ⟨hs, h0, hl, ?_, fun y hy hys hbit hyl ds hds => ?_⟩⟩
  · have := hr.some hc
    simpa using this
  · rcases hy with hy | rfl
    · cases hbc : b.can with
      | false => exact absurd hds ((h.none hbc).2.2.2 y hy hys hbit hyl ds)
      | true =>
        have h5 := (h.some hbc).2.2.2.2 y hy hys hbit hyl ds hds
        simp only [hbc, Bool.true_eq_false, false_or] at hb
        unfold lexLe at h5 ⊢
        simp only
        omega
    · have := (hr.some hc).2 ds hds
      unfold lexLe at this ⊢
      simp only
      omega
theorem tried_all {l low : Nat} {done : Nat → Prop} {b : BV} (hl : l.testBit low = true) (h : Tried legal pay l low done b) (hd : ∀ x, sub x l → x ≠ 0 → done x) : Good legal pay l b := by
  refine ⟨fun hc => ?_, fun hc => ?_, fun hc _ => ?_⟩
  · obtain ⟨h1, h2, h3, h4⟩ := h.none hc
    refine ⟨h1, h2, h3, fun ds hds => ?_⟩
    obtain ⟨x, ds', _, hb, hx, h0, hs, hp⟩ := hds.out hl
    exact h4 x (hd x hs h0) hs hb hx ds' hp
  · obtain ⟨h1, h2, h3, h4, h5⟩ := h.some hc
    obtain ⟨⟨ds, hp, e1, e2⟩, _⟩ := h4
    refine ⟨⟨b.first :: ds, hp.cons h3 h2 h1, ?_, ?_⟩, fun es hes => ?_⟩
    · simp; omega
    · simp only [List.map_cons, sumI]; omega
    · obtain ⟨x, es', hperm, hb, hx, h0, hs, hp'⟩ := hes.out hl
      have := h5 x (hd x hs h0) hs hb hx es' hp'
      have hlen := hperm.length_eq
      have hsum := sumI_perm (hperm.map pay)
      simp only [List.length_cons] at hlen
      simp only [List.map_cons, sumI] at hsum
      unfold lexLe at this ⊢
      omega
  · obtain ⟨h1, h2, h3, h4, _⟩ := h.some hc
    exact ⟨h1, h2, h3, h4⟩
end

/-! ### The way the best ones are found -/
def subsD (l : Nat) : List Nat := ((List.range l).map fun i => l - i).filter fun x => decide (x &&& l = x)
def lowB (l : Nat) : Nat := ((List.range 16).find? fun i => l.testBit i).getD 0
theorem mem_subsD {l x : Nat} : x ∈ subsD l ↔ sub x l ∧ x ≠ 0 := by
  unfold subsD sub
  rw [List.mem_filter, List.mem_map]
  constructor
  · rintro ⟨⟨i, hi, rfl⟩, h⟩
    have := List.mem_range.1 hi
    exact ⟨by simpa using h, by omega⟩
  · rintro ⟨h, h0⟩
    have := sub_le h
    exact ⟨⟨l - x, List.mem_range.2 (by omega), by omega⟩, by simpa using h⟩
theorem lowB_bit {l : Nat} (h0 : l ≠ 0) (h16 : l < 65536) : l.testBit (lowB l) = true := by
  unfold lowB
  cases e : (List.range 16).find? fun i => l.testBit i with
  | some i => exact List.find?_some e
  | none =>
    exfalso
    apply h0
    rw [List.find?_eq_none] at e
    refine Nat.eq_of_testBit_eq fun i => ?_
    rw [Nat.zero_testBit]
    by_cases hi : i < 16
    · have := e i (List.mem_range.2 hi)
      simpa using this
    · exact Nat.testBit_lt_two_pow (Nat.lt_of_lt_of_le h16 (by
        calc 65536 = 2 ^ 16 := rfl
          _ ≤ 2 ^ i := Nat.pow_le_pow_right (by omega) (by omega)))
theorem lowB_least {l i : Nat} (h : l.testBit i = true) (h0 : l < 65536) : lowB l ≤ i := by
  have hl : l ≠ 0 := fun e => by rw [e] at h; simp at h
  refine Nat.not_lt.1 fun hi => ?_
  unfold lowB at hi
  cases e : (List.range 16).find? fun i => l.testBit i with
  | none => rw [e] at hi; simp at hi
  | some j =>
    rw [e, Option.getD_some] at hi
    obtain ⟨_, as, bs, h1, h2⟩ := List.find?_eq_some_iff_append.1 e
    have hj : j < 16 := List.mem_range.1 (by rw [h1]; simp)
    have hi2 : i ∈ List.range 16 := List.mem_range.2 (by omega)
    rw [h1] at hi2
    have hs : (List.range 16).Pairwise (· < ·) := List.pairwise_lt_range
    rw [h1, List.pairwise_append] at hs
    rcases List.mem_append.1 hi2 with h3 | h3
    · have := h2 i h3
      rw [h] at this
      cases this
    · rcases List.mem_cons.1 h3 with h3 | h3
      · omega
      · have := (List.pairwise_cons.1 hs.2.1).1 i h3
        omega

section
variable (legal : Nat → Bool) (pay : Nat → Int)
def stepB (rc : Nat → BV) (l : Nat) (b : BV) (x : Nat) : BV :=
  if x.testBit (lowB l) && legal x then
    (if (rc (l ^^^ x)).can && (!b.can || (decide ((rc (l ^^^ x)).n + 1 < b.n) || (decide ((rc (l ^^^ x)).n + 1 = b.n) && decide ((rc (l ^^^ x)).pay + pay x < b.pay)))) then ⟨x, (rc (l ^^^ x)).n + 1, (rc (l ^^^ x)).pay + pay x, true⟩ else b)
  else b
def solveF : Nat → Nat → BV
  | 0, _ => ⟨0, 0, 0, true⟩
  | f + 1, l => if l = 0 then ⟨0, 0, 0, true⟩ else (subsD l).foldl (stepB legal pay (solveF f) l) ⟨0, 0, 0, false⟩
def solve (l : Nat) : BV := solveF legal pay l l
end
section
variable {legal : Nat → Bool} {pay : Nat → Int}
theorem stepB_congr {rc rc' : Nat → BV} {l : Nat} {b : BV} {x : Nat} (h : rc (l ^^^ x) = rc' (l ^^^ x)) : stepB legal pay rc l b x = stepB legal pay rc' l b x := by
  unfold stepB
  rw [h]
theorem foldl_stepB {rc rc' : Nat → BV} {l : Nat} : ∀ (xs : List Nat) (b : BV), (∀ x ∈ xs, rc (l ^^^ x) = rc' (l ^^^ x)) → xs.foldl (stepB legal pay rc l) b = xs.foldl (stepB legal pay rc' l) b
  | [], b, _ => rfl
  | x :: t, b, h => by
    simp only [List.foldl_cons]
    rw [stepB_congr (h x (by simp))]
    exact foldl_stepB t _ (fun y hy => h y (by simp [hy]))
theorem solveF_fuel : ∀ (f l : Nat), l ≤ f → solveF legal pay f l = solveF legal pay l l := by
  intro f
  induction f using Nat.strongRecOn with
  | ind f ih =>
    intro l hl
    cases f with
    | zero =>
      have : l = 0 := by omega
      rw [this]
    | succ f =>
      cases l with
      | zero => simp [solveF]
      | succ l =>
        simp only [solveF]
        rw [if_neg (by omega), if_neg (by omega)]
        refine foldl_stepB _ _ fun x hx => ?_
        obtain ⟨hs, h0⟩ := mem_subsD.1 hx
        have := rest_lt hs h0
        rw [ih f (by omega) _ (by omega), ih l (by omega) _ (by omega)]
theorem solve_zero : solve legal pay 0 = ⟨0, 0, 0, true⟩ := rfl
theorem solve_eq {l : Nat} (h : l ≠ 0) : solve legal pay l = (subsD l).foldl (stepB legal pay (solve legal pay) l) ⟨0, 0, 0, false⟩ := by
  cases l with
  | zero => exact absurd rfl h
  | succ l =>
    show solveF legal pay (l + 1) (l + 1) = _
    simp only [solveF]
    rw [if_neg h]
    refine foldl_stepB _ _ fun x hx => ?_
    obtain ⟨hs, h0⟩ := mem_subsD.1 hx
    have := rest_lt hs h0
    exact solveF_fuel _ _ (by omega)
theorem solve_good : ∀ (l : Nat), l < 65536 → Good legal pay l (solve legal pay l) := by
  intro l
  induction l using Nat.strongRecOn with
  | ind l ih =>
    intro h16
    by_cases h0 : l = 0
    · subst h0
      exact good_zero
    · rw [solve_eq h0]
      have key : ∀ (xs : List Nat) (done : Nat → Prop) (b : BV), (∀ x ∈ xs, sub x l ∧ x ≠ 0) → Tried legal pay l (lowB l) done b →
          Tried legal pay l (lowB l) (fun y => done y ∨ y ∈ xs) (xs.foldl (stepB legal pay (solve legal pay) l) b) := by
        intro xs
        induction xs with
        | nil => intro done b _ h; simpa using h
        | cons x t iht =>
          intro done b hx h
          obtain ⟨hs, hx0⟩ := hx x (by simp)
          have hlt := rest_lt hs hx0
          have hr := ih _ hlt (by omega)
          have hstep : Tried legal pay l (lowB l) (fun y => done y ∨ y = x) (stepB legal pay (solve legal pay) l b x) := by
            unfold stepB
            by_cases hc : (x.testBit (lowB l) && legal x) = true
            · rw [if_pos hc]
              simp only [Bool.and_eq_true] at hc
              split
              · rename_i hd
                simp only [Bool.and_eq_true, Bool.or_eq_true, decide_eq_true_eq, Bool.not_eq_true'] at hd
                exact tried_take h hs hx0 hc.2 hr hd.1 hd.2
              · rename_i hd
                simp only [Bool.and_eq_true, Bool.or_eq_true, decide_eq_true_eq, Bool.not_eq_true'] at hd
                refine tried_no h hr ?_
                unfold lexLe
                cases hcan : (solve legal pay (l ^^^ x)).can with
                | false => left; rfl
                | true =>
                  right
                  cases hb : b.can with
                  | false => exact absurd ⟨hcan, Or.inl hb⟩ hd
                  | true =>
                    refine ⟨rfl, ?_⟩
                    have : ¬ ((solve legal pay (l ^^^ x)).n + 1 < b.n ∨ (solve legal pay (l ^^^ x)).n + 1 = b.n ∧ (solve legal pay (l ^^^ x)).pay + pay x < b.pay) := fun hh => hd ⟨hcan, Or.inr hh⟩
                    omega
            · rw [if_neg hc]
              refine tried_skip h ?_
              simp only [Bool.and_eq_true, not_and, Bool.not_eq_true] at hc
              cases hb : x.testBit (lowB l) with
              | false => left; rfl
              | true => right; exact hc hb
          have := iht _ _ (fun y hy => hx y (by simp [hy])) hstep
          simp only [List.foldl_cons]
          have e : (fun y => done y ∨ y ∈ x :: t) = (fun y => (done y ∨ y = x) ∨ y ∈ t) := by
            funext y
            simp [or_assoc]
          rw [e]
          exact this
      have h1 := key (subsD l) (fun _ => False) _ (fun x hx => mem_subsD.1 hx) (tried_start l (lowB l))
      exact tried_all (lowB_bit h0 h16) h1 fun x hs hx => Or.inr (mem_subsD.2 ⟨hs, hx⟩)
end

/-! ### The subsets from x on, in falling order -/
theorem filter_le_of_desc : ∀ (L : List Nat) (x : Nat), L.Pairwise (· > ·) → x ∈ L → L.filter (fun y => decide (y ≤ x)) = x :: L.filter (fun y => decide (y < x))
  | [], x, _, h => by simp at h
  | a :: t, x, hp, h => by
    rw [List.pairwise_cons] at hp
    rcases List.mem_cons.1 h with rfl | h
    · rw [List.filter_cons_of_pos (by simp), List.filter_cons_of_neg (by simp)]
      congr 1
      refine List.filter_congr fun y hy => ?_
      have := hp.1 y hy
      simp only [decide_eq_decide]
      omega
    · have hx := hp.1 x h
      rw [List.filter_cons_of_neg (by simp; omega), List.filter_cons_of_neg (by simp; omega)]
      exact filter_le_of_desc t x hp.2 h
theorem subsD_desc (l : Nat) : (subsD l).Pairwise (· > ·) := by
  unfold subsD
  refine List.Pairwise.filter _ ?_
  rw [List.pairwise_map]
  refine List.Pairwise.imp_of_mem (R := (· < ·)) ?_ List.pairwise_lt_range
  intro a b ha hb h
  have := List.mem_range.1 hb
  show l - b < l - a
  omega
def walkS (l x : Nat) : List Nat := (subsD l).filter fun y => decide (y ≤ x)
theorem walkS_zero (l : Nat) : walkS l 0 = [] := by
  unfold walkS
  rw [List.filter_eq_nil_iff]
  intro y hy
  have := (mem_subsD.1 hy).2
  simp
  omega
theorem walkS_all (l : Nat) : walkS l l = subsD l := by
  unfold walkS
  rw [List.filter_eq_self]
  intro y hy
  have := sub_le (mem_subsD.1 hy).1
  simpa using this
theorem walkS_step {l x : Nat} (hs : sub x l) (h0 : x ≠ 0) : walkS l x = x :: walkS l ((x - 1) &&& l) := by
  unfold walkS
  rw [filter_le_of_desc _ x (subsD_desc l) (mem_subsD.2 ⟨hs, h0⟩)]
  congr 1
  refine List.filter_congr fun y hy => ?_
  have hy' := (mem_subsD.1 hy).1
  have h1 : (x - 1) &&& l ≤ x - 1 := Nat.and_le_left
  simp only [decide_eq_decide]
  constructor
  · intro h
    exact next_sub l x y hs hy' h
  · intro h
    omega
end Go.Proofs.YtckgapeednokjaaGreat
namespace Go.Proofs.YtckgapeednokjaaGreat

/-! ### Lists of segments as sets by bits -/
def maskL (l : List Nat) : Nat := l.foldl (fun x n => x ||| 1 <<< n) 0
theorem maskL_snoc (l : List Nat) (n : Nat) : maskL (l ++ [n]) = maskL l ||| 1 <<< n := by simp [maskL, List.foldl_append]
theorem bit_one (n i : Nat) : (1 <<< n).testBit i = decide (n = i) := by
  rw [Nat.one_shiftLeft, Nat.testBit_two_pow]
theorem maskL_bit (l : List Nat) (i : Nat) : (maskL l).testBit i = decide (i ∈ l) := by
  have : ∀ (l : List Nat) (a : Nat), (l.foldl (fun x n => x ||| 1 <<< n) a).testBit i = (a.testBit i || decide (i ∈ l)) := by
    intro l
    induction l with
    | nil => intro a; simp
    | cons n t ih =>
      intro a
      simp only [List.foldl_cons]
      rw [ih, Nat.testBit_or, bit_one]
      by_cases h1 : n = i
      · subst h1; simp
      · have h2 : ¬ i = n := fun e => h1 e.symm
        simp [h1, h2]
  rw [maskL, this l 0]
  simp
theorem mem_bitsL {n x i : Nat} : i ∈ bitsL n x ↔ i < n ∧ x.testBit i = true := by
  unfold bitsL
  rw [List.mem_filter, List.mem_range]
theorem bitsL_asc (n x : Nat) : (bitsL n x).Pairwise (· < ·) := List.Pairwise.filter _ List.pairwise_lt_range
theorem asc_unique : ∀ {a b : List Nat}, a.Pairwise (· < ·) → b.Pairwise (· < ·) → (∀ i, i ∈ a ↔ i ∈ b) → a = b
  | [], [], _, _, _ => rfl
  | [], y :: u, _, _, h => absurd ((h y).2 (by simp)) (by simp)
  | x :: t, [], _, _, h => absurd ((h x).1 (by simp)) (by simp)
  | x :: t, y :: u, h1, h2, h => by
    rw [List.pairwise_cons] at h1 h2
    have e : x = y := by
      rcases List.mem_cons.1 ((h x).1 (by simp)) with e | e
      · exact e
      · rcases List.mem_cons.1 ((h y).2 (by simp)) with e2 | e2
        · exact e2.symm
        · have := h2.1 x e
          have := h1.1 y e2
          omega
    subst e
    rw [asc_unique h1.2 h2.2 fun i => ?_]
    constructor
    · intro hi
      rcases List.mem_cons.1 ((h i).1 (by simp [hi])) with e | e
      · have := h1.1 i hi; omega
      · exact e
    · intro hi
      rcases List.mem_cons.1 ((h i).2 (by simp [hi])) with e | e
      · have := h2.1 i hi; omega
      · exact e
theorem bitsL_mask {n : Nat} {l : List Nat} (hr : l.Pairwise (· < ·)) (hl : ∀ i ∈ l, i < n) : bitsL n (maskL l) = l := by
  refine asc_unique (bitsL_asc _ _) hr fun i => ?_
  rw [mem_bitsL, maskL_bit]
  simp only [decide_eq_true_eq]
  exact ⟨fun h => h.2, fun h => ⟨hl i h, h⟩⟩
theorem mask_bitsL {n x : Nat} (h : x < 2 ^ n) : maskL (bitsL n x) = x := by
  refine Nat.eq_of_testBit_eq fun i => ?_
  rw [maskL_bit]
  by_cases hi : i < n
  · cases hx : x.testBit i with
    | true => simp [mem_bitsL, hi, hx]
    | false => simp [mem_bitsL, hi, hx]
  · rw [Nat.testBit_lt_two_pow (Nat.lt_of_lt_of_le h (Nat.pow_le_pow_right (by omega) (by omega)))]
    simp [mem_bitsL, hi]
def fullM (n : Nat) : Nat := 2 ^ n - 1
theorem fullM_bit (n i : Nat) : (fullM n).testBit i = decide (i < n) := by
  unfold fullM
  exact Nat.testBit_two_pow_sub_one n i
theorem fullM_sub {n x : Nat} : sub x (fullM n) ↔ x < 2 ^ n := by
  constructor
  · intro h
    have := sub_le h
    have h2 : 0 < 2 ^ n := Nat.two_pow_pos n
    unfold fullM at this
    omega
  · intro h
    refine sub_of_bits fun i hi => ?_
    rw [fullM_bit]
    by_cases hin : i < n
    · simpa using hin
    · rw [Nat.testBit_lt_two_pow (Nat.lt_of_lt_of_le h (Nat.pow_le_pow_right (by omega) (by omega)))] at hi
      cases hi
theorem mask_lt {n : Nat} {l : List Nat} (hl : ∀ i ∈ l, i < n) : maskL l < 2 ^ n := fullM_sub.1 (sub_of_bits fun i hi => by
  rw [maskL_bit] at hi
  rw [fullM_bit]
  have := hl i (by simpa using hi)
  simpa using this)
theorem mask_pos {l : List Nat} (h : l ≠ []) : maskL l ≠ 0 := by
  cases l with
  | nil => exact absurd rfl h
  | cons a t =>
    intro e
    have := maskL_bit (a :: t) a
    rw [e] at this
    simp at this

/-! ### Plans -/
def legalX (d : DDay) (x : Nat) : Bool := legalL d (bitsL (segN d.blocks) x)
def payX (d : DDay) (x : Nat) : Int := payL d (bitsL (segN d.blocks) x)
/-- Is a list of segments a duty? -/
structure IsDuty (d : DDay) (l : List Nat) : Prop where
  rise : l.Pairwise (· < ·)
  lt : ∀ i ∈ l, i < segN d.blocks
  some : l ≠ []
/-- Is a list of duties a right plan? -/
structure IsPlan (d : DDay) (plan : List (List Nat)) : Prop where
  duty : ∀ l ∈ plan, IsDuty d l
  legal : ∀ l ∈ plan, legalL d l = true
  once : ∀ s, s < segN d.blocks → (plan.countP fun l => decide (s ∈ l)) = 1
theorem plan_parts {d : DDay} {plan : List (List Nat)} (h : IsPlan d plan) : Parts (legalX d) (fullM (segN d.blocks)) (plan.map maskL) := by
  refine ⟨fun x hx => ?_, fun i => ?_⟩
  · obtain ⟨l, hl, rfl⟩ := List.mem_map.1 hx
    have hd := h.duty l hl
    refine ⟨?_, mask_pos hd.some⟩
    unfold legalX
    rw [bitsL_mask hd.rise hd.lt]
    exact h.legal l hl
  · rw [fullM_bit]
    unfold cnt
    rw [List.countP_map]
    have e : ((fun x : Nat => x.testBit i) ∘ maskL) = fun l => decide (i ∈ l) := by
      funext l
      simp [maskL_bit]
    rw [e]
    by_cases hi : i < segN d.blocks
    · rw [h.once i hi]
      simp [hi]
    · have : (plan.countP fun l => decide (i ∈ l)) = 0 := by
        rw [List.countP_eq_zero]
        intro l hl
        have := (h.duty l hl).lt i
        simp
        intro hc
        exact hi (this hc)
      rw [this]
      simp [hi]
theorem plan_pay {d : DDay} {plan : List (List Nat)} (h : ∀ l ∈ plan, IsDuty d l) : (plan.map maskL).map (payX d) = plan.map (payL d) := by
  rw [List.map_map]
  refine List.map_congr_left fun l hl => ?_
  have hd := h l hl
  simp only [Function.comp_apply, payX]
  rw [bitsL_mask hd.rise hd.lt]
theorem parts_plan {d : DDay} {ds : List Nat} (h : Parts (legalX d) (fullM (segN d.blocks)) ds) : IsPlan d (ds.map (bitsL (segN d.blocks))) ∧ (ds.map (bitsL (segN d.blocks))).map maskL = ds := by
  have hlt : ∀ x ∈ ds, x < 2 ^ segN d.blocks := fun x hx => fullM_sub.1 (h.sub hx)
  refine ⟨⟨fun l hl => ?_, fun l hl => ?_, fun s hs => ?_⟩, ?_⟩
  · obtain ⟨x, hx, rfl⟩ := List.mem_map.1 hl
    refine ⟨bitsL_asc _ _, fun i hi => (mem_bitsL.1 hi).1, fun e => ?_⟩
    have := mask_bitsL (hlt x hx)
    rw [e] at this
    exact (h.legal x hx).2 this.symm
  · obtain ⟨x, hx, rfl⟩ := List.mem_map.1 hl
    exact (h.legal x hx).1
  · have h1 := h.once s
    rw [fullM_bit] at h1
    simp only [hs, decide_true, if_true] at h1
    rw [List.countP_map]
    unfold cnt at h1
    rw [← h1]
    refine List.countP_congr fun x hx => ?_
    simp [mem_bitsL, hs]
  · rw [List.map_map]
    conv => rhs; rw [← List.map_id ds]
    exact List.map_congr_left fun x hx => mask_bitsL (hlt x hx)
end Go.Proofs.YtckgapeednokjaaGreat
namespace Go.Proofs.YtckgapeednokjaaGreat

/-! ### Weights: plain -/
theorem sumD_append (a b : List Int) : sumD (a ++ b) = sumD a + sumD b := by
  induction a with
  | nil => simp [sumD]
  | cons x a ih => simp [sumD, ih]; omega
def sumR (n : Nat) (f : Nat → Int) : Int := sumD ((List.range n).map f)
theorem sumR_succ (n : Nat) (f : Nat → Int) : sumR (n + 1) f = sumR n f + f n := by
  unfold sumR
  rw [List.range_succ, List.map_append, sumD_append]
  simp [sumD]
theorem sumR_congr {n : Nat} {f g : Nat → Int} (h : ∀ i, i < n → f i = g i) : sumR n f = sumR n g := by
  unfold sumR
  rw [List.map_congr_left fun i hi => h i (List.mem_range.1 hi)]
theorem sumR_add (n : Nat) (f g : Nat → Int) : sumR n (fun i => f i + g i) = sumR n f + sumR n g := by
  induction n with
  | zero => simp [sumR, sumD]
  | succ n ih => simp only [sumR_succ, ih]; omega
theorem sumR_zero (n : Nat) : sumR n (fun _ => 0) = 0 := by
  induction n with
  | zero => rfl
  | succ n ih => rw [sumR_succ, ih]; rfl
theorem sumR_le {n : Nat} {f g : Nat → Int} (h : ∀ i, i < n → f i ≤ g i) : sumR n f ≤ sumR n g := by
  induction n with
  | zero => simp [sumR, sumD]
  | succ n ih =>
    have := ih fun i hi => h i (by omega)
    have := h n (by omega)
    simp only [sumR_succ]
    omega
def wtL (w : List Int) (l : List Nat) : Int := sumD (l.map fun i => w[i]?.getD 0)
def wtX (n : Nat) (w : List Int) (x : Nat) : Int := wtL w (bitsL n x)
theorem wtX_eq (w : List Int) (x : Nat) : ∀ n, wtX n w x = sumR n fun i => if x.testBit i then w[i]?.getD 0 else 0
  | 0 => rfl
  | n + 1 => by
    have ih := wtX_eq w x n
    rw [sumR_succ, ← ih]
    unfold wtX wtL bitsL
    rw [List.range_succ, List.filter_append, List.map_append, sumD_append]
    congr 1
    cases h : x.testBit n <;> simp [h, sumD]
theorem wt_full (n : Nat) (w : List Int) : wtX n w (fullM n) = sumR n fun i => w[i]?.getD 0 := by
  rw [wtX_eq]
  exact sumR_congr fun i hi => by rw [fullM_bit]; simp [hi]
theorem sumR_list : ∀ (w : List Int), sumR w.length (fun i => w[i]?.getD 0) = sumD w := by
  intro w
  unfold sumR
  congr 1
  apply List.ext_getElem?
  intro i
  rw [List.getElem?_map]
  by_cases h : i < w.length
  · rw [List.getElem?_range h, List.getElem?_eq_getElem h]
    simp [h]
  · rw [List.getElem?_eq_none (by simpa using h), List.getElem?_eq_none (by simpa using h)]
    rfl
theorem wt_parts (n : Nat) (w : List Int) : ∀ ds : List Nat, sumI (ds.map (wtX n w)) = sumR n fun i => (cnt ds i : Int) * (w[i]?.getD 0)
  | [] => by
    simp only [List.map_nil, sumI, cnt, List.countP_nil]
    have : (fun i : Nat => ((0 : Nat) : Int) * (w[i]?.getD 0)) = fun _ => 0 := by funext i; simp
    rw [this, sumR_zero]
  | x :: t => by
    simp only [List.map_cons, sumI]
    rw [wt_parts n w t, wtX_eq, ← sumR_add]
    refine sumR_congr fun i hi => ?_
    unfold cnt
    rw [List.countP_cons]
    cases h : x.testBit i
    · simp
    · simp [Int.add_mul]; omega
/-- Fair weights: a partition has as many duties as the thousandth part of all weights. -/
theorem fair_bound {legal : Nat → Bool} {n : Nat} {w : List Int} {ds : List Nat} (h : Parts legal (fullM n) ds) (hf : ∀ x, legal x = true → x ≠ 0 → x < 2 ^ n → wtX n w x ≤ 1000) : wtX n w (fullM n) ≤ 1000 * ds.length := by
  have h1 := wt_parts n w ds
  have h2 : sumR n (fun i => (cnt ds i : Int) * (w[i]?.getD 0)) = wtX n w (fullM n) := by
    rw [wt_full]
    refine sumR_congr fun i hi => ?_
    rw [h.once i, fullM_bit]
    simp [hi]
  rw [← h2, ← h1]
  have key : ∀ es : List Nat, (∀ x ∈ es, wtX n w x ≤ 1000) → sumI (es.map (wtX n w)) ≤ 1000 * es.length := by
    intro es
    induction es with
    | nil => intro _; simp [sumI]
    | cons x t ih =>
      intro hx
      have := ih fun y hy => hx y (by simp [hy])
      have := hx x (by simp)
      simp only [List.map_cons, sumI, List.length_cons]
      push_cast
      omega
  exact key ds fun x hx => hf x (h.legal x hx).1 (h.legal x hx).2 (fullM_sub.1 (h.sub hx))
end Go.Proofs.YtckgapeednokjaaGreat
namespace Go.Proofs.YtckgapeednokjaaGreat

/-! ### The plan that the best ones lead to -/
section
variable {legal : Nat → Bool} {pay : Nat → Int}
theorem stepB_first {rc : Nat → BV} {l : Nat} {b : BV} {x : Nat} (h : b.can = true → b.first.testBit (lowB l) = true) : (stepB legal pay rc l b x).can = true → (stepB legal pay rc l b x).first.testBit (lowB l) = true := by
  unfold stepB
  split
  · rename_i h1
    simp only [Bool.and_eq_true] at h1
    split
    · intro _; exact h1.1
    · exact h
  · exact h
theorem solve_low {l : Nat} (h0 : l ≠ 0) (hc : (solve legal pay l).can = true) : (solve legal pay l).first.testBit (lowB l) = true := by
  rw [solve_eq h0] at hc ⊢
  have key : ∀ (xs : List Nat) (b : BV), (b.can = true → b.first.testBit (lowB l) = true) → (xs.foldl (stepB legal pay (solve legal pay) l) b).can = true → (xs.foldl (stepB legal pay (solve legal pay) l) b).first.testBit (lowB l) = true := by
    intro xs
    induction xs with
    | nil => intro b h; exact h
    | cons x t ih => intro b h; exact ih _ (stepB_first h)
  exact key _ _ (by simp) hc
def chainF (first : Nat → Nat) : Nat → Nat → List Nat
  | 0, _ => []
  | f + 1, l => if l = 0 then [] else first l :: chainF first f (l ^^^ first l)
end
section
variable (legal : Nat → Bool) (pay : Nat → Int)
def firstS (l : Nat) : Nat := (solve legal pay l).first
/-- The duties of the best plan for what is left. -/
def chain (l : Nat) : List Nat := chainF (firstS legal pay) l l
end
section
variable {legal : Nat → Bool} {pay : Nat → Int}
theorem chainF_fuel (first : Nat → Nat) (P : Nat → Prop) (hP : ∀ l, P l → l ≠ 0 → l ^^^ first l < l ∧ P (l ^^^ first l)) : ∀ (f l : Nat), P l → l ≤ f → chainF first f l = chainF first l l := by
  intro f
  induction f using Nat.strongRecOn with
  | ind f ih =>
    intro l hl hf
    cases f with
    | zero =>
      have : l = 0 := by omega
      rw [this]
    | succ f =>
      cases l with
      | zero => simp [chainF]
      | succ l =>
        simp only [chainF]
        rw [if_neg (by omega), if_neg (by omega)]
        have := hP _ hl (by omega)
        rw [ih f (by omega) _ this.2 (by omega), ih l (by omega) _ this.2 (by omega)]
/-- What can be done. -/
def canS (legal : Nat → Bool) (pay : Nat → Int) (l : Nat) : Prop := l < 65536 ∧ (solve legal pay l).can = true
theorem canS_next {l : Nat} (h : canS legal pay l) (h0 : l ≠ 0) : sub (firstS legal pay l) l ∧ firstS legal pay l ≠ 0 ∧ legal (firstS legal pay l) = true ∧ (firstS legal pay l).testBit (lowB l) = true ∧ l ^^^ firstS legal pay l < l ∧ canS legal pay (l ^^^ firstS legal pay l) ∧
    (solve legal pay (l ^^^ firstS legal pay l)).n = (solve legal pay l).n - 1 ∧ (solve legal pay (l ^^^ firstS legal pay l)).pay = (solve legal pay l).pay - pay (firstS legal pay l) := by
  have hg := solve_good (legal := legal) (pay := pay) l h.1
  obtain ⟨h1, h2, h3, h4⟩ := hg.next h.2 h0
  have hlt := rest_lt h1 h2
  have hg' := solve_good (legal := legal) (pay := pay) (l ^^^ firstS legal pay l) (Nat.lt_trans hlt h.1)
  have hc : (solve legal pay (l ^^^ firstS legal pay l)).can = true := by
    cases hc : (solve legal pay (l ^^^ firstS legal pay l)).can with
    | true => rfl
    | false =>
      obtain ⟨⟨ds, hp, _⟩, _⟩ := h4
      exact absurd hp ((hg'.none hc).2.2.2 ds)
  obtain ⟨e1, e2⟩ := min_unique (hg'.some hc) h4
  exact ⟨h1, h2, h3, solve_low h0 h.2, hlt, ⟨Nat.lt_trans hlt h.1, hc⟩, e1, e2⟩
theorem chain_zero : chain legal pay 0 = [] := rfl
theorem chain_step {l : Nat} (h : canS legal pay l) (h0 : l ≠ 0) : chain legal pay l = firstS legal pay l :: chain legal pay (l ^^^ firstS legal pay l) := by
  have hn := canS_next h h0
  unfold chain
  cases l with
  | zero => exact absurd rfl h0
  | succ l =>
    have hlt : l + 1 ^^^ firstS legal pay (l + 1) < l + 1 := hn.2.2.2.2.1
    simp only [chainF]
    rw [if_neg h0, chainF_fuel (firstS legal pay) (canS legal pay) (fun k hk h0 => ⟨(canS_next hk h0).2.2.2.2.1, (canS_next hk h0).2.2.2.2.2.1⟩) l _ hn.2.2.2.2.2.1 (by omega)]
theorem chain_parts : ∀ {l : Nat}, canS legal pay l → Parts legal l (chain legal pay l) ∧ ((chain legal pay l).length : Int) = (solve legal pay l).n ∧ sumI ((chain legal pay l).map pay) = (solve legal pay l).pay := by
  intro l
  induction l using Nat.strongRecOn with
  | ind l ih =>
    intro h
    by_cases h0 : l = 0
    · subst h0
      exact ⟨Parts.nil, rfl, rfl⟩
    · obtain ⟨h1, h2, h3, h4, h5, h6, h7, h8⟩ := canS_next h h0
      obtain ⟨i1, i2, i3⟩ := ih _ h5 h6
      rw [chain_step h h0]
      refine ⟨i1.cons h3 h2 h1, ?_, ?_⟩
      · simp only [List.length_cons]; omega
      · simp only [List.map_cons, sumI]; omega
/-- Each next one begins behind the one before. -/
theorem chain_low : ∀ {l : Nat}, canS legal pay l → ((chain legal pay l).map lowB).Pairwise (· < ·) ∧ ∀ x ∈ chain legal pay l, lowB l ≤ lowB x := by
  intro l
  induction l using Nat.strongRecOn with
  | ind l ih =>
    intro h
    by_cases h0 : l = 0
    · subst h0
      simp [chain_zero]
    · obtain ⟨h1, h2, h3, h4, h5, h6, h7, h8⟩ := canS_next h h0
      obtain ⟨i1, i2⟩ := ih _ h5 h6
      rw [chain_step h h0]
      have hx : firstS legal pay l < 65536 := Nat.lt_of_le_of_lt (sub_le h1) h.1
      have e1 : lowB (firstS legal pay l) = lowB l := by
        have a := lowB_least h4 hx
        have b := lowB_least (sub_bit h1 (lowB_bit h2 hx)) h.1
        omega
      have hgt : ∀ x ∈ chain legal pay (l ^^^ firstS legal pay l), lowB l < lowB x := fun x hm => by
        have hp := (chain_parts h6).1
        have hxs := hp.sub hm
        have hx0 := (hp.legal x hm).2
        have hxl : x < 65536 := Nat.lt_of_le_of_lt (sub_le hxs) h6.1
        have hb := lowB_bit hx0 hxl
        have hb2 := sub_bit hxs hb
        rw [rest_bit h1] at hb2
        simp only [Bool.and_eq_true, Bool.not_eq_true'] at hb2
        have hle := lowB_least hb2.1 h.1
        rcases Nat.lt_or_ge (lowB l) (lowB x) with h9 | h9
        · exact h9
        · have : lowB x = lowB l := by omega
          rw [this, h4] at hb2
          cases hb2.2
      refine ⟨?_, fun x hm => ?_⟩
      · rw [List.map_cons, List.pairwise_cons, e1]
        refine ⟨fun y hy => ?_, i1⟩
        obtain ⟨x, hm, rfl⟩ := List.mem_map.1 hy
        exact hgt x hm
      · rcases List.mem_cons.1 hm with rfl | hm
        · omega
        · have := hgt x hm; omega
end

/-! ### The best plan of a day -/
def bestV (d : DDay) : BV := solve (legalX d) (payX d) (fullM (segN d.blocks))
def bestD (d : DDay) : List Nat := chain (legalX d) (payX d) (fullM (segN d.blocks))
def bestP (d : DDay) : List (List Nat) := (bestD d).map (bitsL (segN d.blocks))
theorem fullM_lt {n : Nat} (h : n ≤ 16) : fullM n < 65536 := by
  unfold fullM
  have : 2 ^ n ≤ 2 ^ 16 := Nat.pow_le_pow_right (by omega) h
  omega
theorem head_bitsL {n x : Nat} (hx : x < 2 ^ n) (h0 : x ≠ 0) (hn : n ≤ 16) : ∃ t, bitsL n x = lowB x :: t := by
  have h16 : x < 65536 := Nat.lt_of_lt_of_le hx (Nat.pow_le_pow_right (n := 2) (by omega) hn)
  have hb := lowB_bit h0 h16
  have hm : lowB x ∈ bitsL n x := by
    rw [mem_bitsL]
    refine ⟨?_, hb⟩
    have := fullM_sub.2 hx
    have := sub_bit this hb
    rw [fullM_bit] at this
    simpa using this
  cases e : bitsL n x with
  | nil => rw [e] at hm; simp at hm
  | cons a t =>
    have ha : a ∈ bitsL n x := by rw [e]; simp
    have h1 := lowB_least (mem_bitsL.1 ha).2 h16
    have h2 := bitsL_asc n x
    rw [e, List.pairwise_cons] at h2
    rw [e] at hm
    rcases List.mem_cons.1 hm with h3 | h3
    · exact ⟨t, by rw [h3]⟩
    · have := h2.1 _ h3; omega
section
variable {d : DDay} (hn : segN d.blocks ≤ 16)
include hn
theorem best_none (h : (bestV d).can = false) : ∀ plan, ¬ IsPlan d plan := fun plan hp =>
  ((solve_good (legal := legalX d) (pay := payX d) _ (fullM_lt hn)).none h).2.2.2 _ (plan_parts hp)
theorem best_can (h : (bestV d).can = true) : canS (legalX d) (payX d) (fullM (segN d.blocks)) := ⟨fullM_lt hn, h⟩
theorem best_plan (h : (bestV d).can = true) : IsPlan d (bestP d) := (parts_plan (chain_parts (best_can hn h)).1).1
theorem best_len (h : (bestV d).can = true) : ((bestP d).length : Int) = (bestV d).n := by
  unfold bestP
  rw [List.length_map]
  exact (chain_parts (best_can hn h)).2.1
theorem best_pay (h : (bestV d).can = true) : sumI ((bestP d).map (payL d)) = (bestV d).pay := by
  refine Eq.trans ?_ (chain_parts (best_can hn h)).2.2
  unfold bestP
  rw [List.map_map]
  rfl
theorem best_least (h : (bestV d).can = true) {plan : List (List Nat)} (hp : IsPlan d plan) : lexLe (bestV d).n (bestV d).pay plan.length (sumI (plan.map (payL d))) := by
  have h1 := ((solve_good (legal := legalX d) (pay := payX d) _ (fullM_lt hn)).some h).2 _ (plan_parts hp)
  rw [plan_pay hp.duty, List.length_map] at h1
  exact h1
theorem best_exists {plan : List (List Nat)} (hp : IsPlan d plan) : (bestV d).can = true := by
  cases h : (bestV d).can with
  | true => rfl
  | false => exact absurd hp (best_none hn h plan)
/-- The duties come in the order of their first segments. -/
theorem best_order (h : (bestV d).can = true) : ((bestP d).map fun l => l.headD 0).Pairwise (· < ·) := by
  have h1 := (chain_low (best_can hn h)).1
  have hp := (chain_parts (best_can hn h)).1
  unfold bestP
  rw [List.map_map]
  have e : (chain (legalX d) (payX d) (fullM (segN d.blocks))).map lowB = (bestD d).map ((fun l => l.headD 0) ∘ bitsL (segN d.blocks)) := by
    refine List.map_congr_left fun x hx => ?_
    obtain ⟨t, ht⟩ := head_bitsL (fullM_sub.1 (hp.sub hx)) (hp.legal x hx).2 hn
    simp [ht]
  rw [← e]
  exact h1
end
end Go.Proofs.YtckgapeednokjaaGreat
namespace Go.Proofs.YtckgapeednokjaaGreat

/-! ### The reference's way to the best plans -/
def legalDs (d : DDay) : List (List Nat) := (((List.range (2 ^ segN d.blocks)).drop 1).map (bitsL (segN d.blocks))).filter (legalL d)
def freeS (n : Nat) (begins : List (List Nat)) : Option Nat := (List.range n).find? fun s => !(begins.any fun l => l.contains s)
def fitsL (begins : List (List Nat)) (s : Nat) (l : List Nat) : Bool := l.contains s && begins.all fun b => b.all fun j => !l.contains j
def fewStep (r : Int × Int) (acc : Int × Int) : Int × Int := if 0 ≤ r.1 ∧ (acc.1 < 0 ∨ (r.1 < acc.1 ∨ r.1 = acc.1 ∧ r.2 < acc.2)) then r else acc
def fewL (d : DDay) : Nat → List (List Nat) → Int × Int
  | 0, begins => (begins.length, sumI (begins.map (payL d)))
  | f + 1, begins =>
    match freeS (segN d.blocks) begins with
    | none => (begins.length, sumI (begins.map (payL d)))
    | some s => (legalDs d).foldl (fun acc l => if fitsL begins s l then fewStep (fewL d f (begins ++ [l])) acc else acc) (-1, 0)

/-- What is left beside some duties. -/
def coverM (begins : List (List Nat)) : Nat := begins.foldl (fun x l => x ||| maskL l) 0
theorem coverM_bit (begins : List (List Nat)) (i : Nat) : (coverM begins).testBit i = begins.any fun l => l.contains i := by
  have : ∀ (ls : List (List Nat)) (a : Nat), (ls.foldl (fun x l => x ||| maskL l) a).testBit i = (a.testBit i || ls.any fun l => l.contains i) := by
    intro ls
    induction ls with
    | nil => intro a; simp
    | cons l t ih =>
      intro a
      simp only [List.foldl_cons, List.any_cons]
      rw [ih, Nat.testBit_or, maskL_bit]
      have : decide (i ∈ l) = l.contains i := by simp
      rw [this, Bool.or_assoc]
  unfold coverM
  rw [this begins 0]
  simp
def restM (n : Nat) (begins : List (List Nat)) : Nat := fullM n ^^^ (fullM n &&& coverM begins)
theorem restM_bit (n : Nat) (begins : List (List Nat)) (i : Nat) : (restM n begins).testBit i = (decide (i < n) && !(begins.any fun l => l.contains i)) := by
  unfold restM
  rw [Nat.testBit_xor, Nat.testBit_and, fullM_bit, coverM_bit]
  cases decide (i < n) <;> simp
theorem restM_nil (n : Nat) : restM n [] = fullM n := by
  refine Nat.eq_of_testBit_eq fun i => ?_
  rw [restM_bit, fullM_bit]
  simp
theorem restM_lt {n : Nat} (hn : n ≤ 16) (begins : List (List Nat)) : restM n begins < 65536 := by
  refine Nat.lt_of_le_of_lt (sub_le (l := fullM n) (sub_of_bits fun i hi => ?_)) (fullM_lt hn)
  rw [restM_bit] at hi
  rw [fullM_bit]
  simp only [Bool.and_eq_true] at hi
  exact hi.1
theorem free_none {n : Nat} {begins : List (List Nat)} (h : freeS n begins = none) : restM n begins = 0 := by
  refine Nat.eq_of_testBit_eq fun i => ?_
  rw [restM_bit, Nat.zero_testBit]
  unfold freeS at h
  rw [List.find?_eq_none] at h
  by_cases hi : i < n
  · have := h i (List.mem_range.2 hi)
    simp only [Bool.not_eq_true, Bool.not_eq_false'] at this
    rw [this, Bool.not_true, Bool.and_false]
  · simp [hi]
theorem free_some {n s : Nat} {begins : List (List Nat)} (hn : n ≤ 16) (h : freeS n begins = some s) : (restM n begins).testBit s = true ∧ lowB (restM n begins) = s ∧ restM n begins ≠ 0 := by
  unfold freeS at h
  obtain ⟨h1, as, bs, h2, h3⟩ := List.find?_eq_some_iff_append.1 h
  have hs : s < n := List.mem_range.1 (by rw [h2]; simp)
  have hb : (restM n begins).testBit s = true := by
    rw [restM_bit]
    simp [hs, h1]
    simpa using h1
  have h0 : restM n begins ≠ 0 := fun e => by rw [e] at hb; simp at hb
  refine ⟨hb, ?_, h0⟩
  have hlow := lowB_bit h0 (restM_lt hn begins)
  have hle := lowB_least hb (restM_lt hn begins)
  rcases Nat.lt_or_ge (lowB (restM n begins)) s with h4 | h4
  · exfalso
    have hin : lowB (restM n begins) ∈ List.range n := List.mem_range.2 (by omega)
    rw [h2] at hin
    have hp : (List.range n).Pairwise (· < ·) := List.pairwise_lt_range
    rw [h2, List.pairwise_append] at hp
    rcases List.mem_append.1 hin with h5 | h5
    · have h6 := h3 _ h5
      rw [restM_bit] at hlow
      simp only [Bool.and_eq_true] at hlow
      rw [hlow.2] at h6
      simp at h6
    · rcases List.mem_cons.1 h5 with h5 | h5
      · omega
      · have := (List.pairwise_cons.1 hp.2.1).1 _ h5
        omega
  · omega
def encF (begins : List (List Nat)) (d : DDay) (b : BV) : Int × Int := if b.can then ((begins.length : Int) + b.n, sumI (begins.map (payL d)) + b.pay) else (-1, 0)
theorem mem_legalDs {d : DDay} {l : List Nat} : l ∈ legalDs d ↔ ∃ x, x ≠ 0 ∧ x < 2 ^ segN d.blocks ∧ l = bitsL (segN d.blocks) x ∧ legalX d x = true := by
  unfold legalDs
  rw [List.mem_filter, List.mem_map]
  have hd : ∀ x, x ∈ (List.range (2 ^ segN d.blocks)).drop 1 ↔ x ≠ 0 ∧ x < 2 ^ segN d.blocks := by
    intro x
    rw [List.range_eq_range', List.drop_range', List.mem_range'_1]
    have := Nat.two_pow_pos (segN d.blocks)
    omega
  constructor
  · rintro ⟨⟨x, hx, rfl⟩, h⟩
    exact ⟨x, ((hd x).1 hx).1, ((hd x).1 hx).2, rfl, h⟩
  · rintro ⟨x, h0, h1, rfl, h⟩
    exact ⟨⟨x, (hd x).2 ⟨h0, h1⟩, rfl⟩, h⟩
theorem sumI_append (a b : List Int) : sumI (a ++ b) = sumI a + sumI b := by
  induction a with
  | nil => simp [sumI]
  | cons x a ih => simp [sumI, ih]; omega
theorem few_good {d : DDay} (hn : segN d.blocks ≤ 16) : ∀ (f : Nat) (begins : List (List Nat)), restM (segN d.blocks) begins ≤ f → fewL d f begins = encF begins d (solve (legalX d) (payX d) (restM (segN d.blocks) begins)) := by
  intro f
  induction f with
  | zero =>
    intro begins h
    have h0 : restM (segN d.blocks) begins = 0 := by omega
    rw [h0, solve_zero]
    simp [fewL, encF]
  | succ f ih =>
    intro begins hf
    simp only [fewL]
    cases hfr : freeS (segN d.blocks) begins with
    | none =>
      rw [free_none hfr, solve_zero]
      simp [encF]
    | some s =>
      obtain ⟨hb, hlow, h0⟩ := free_some hn hfr
      have h16 := restM_lt hn begins
      obtain ⟨R, hR⟩ : ∃ R, restM (segN d.blocks) begins = R := ⟨_, rfl⟩
      rw [hR] at hb hlow h0 h16 hf ⊢
      have hfit : ∀ x, x < 2 ^ segN d.blocks → fitsL begins s (bitsL (segN d.blocks) x) = true → sub x R ∧ x.testBit s = true := by
        intro x hx h
        unfold fitsL at h
        simp only [Bool.and_eq_true, List.all_eq_true, List.contains_iff_mem, Bool.not_eq_true', mem_bitsL] at h
        refine ⟨sub_of_bits fun i hi => ?_, h.1.2⟩
        have hin : i < segN d.blocks := by
          have := sub_bit (fullM_sub.2 hx) hi
          rw [fullM_bit] at this
          simpa using this
        rw [← hR, restM_bit]
        simp only [hin, decide_true, Bool.true_and, Bool.not_eq_true', List.any_eq_false, List.contains_iff_mem]
        intro l hl hil
        have h2 := h.2 l hl i hil
        have : (bitsL (segN d.blocks) x).contains i = true := by rw [List.contains_iff_mem, mem_bitsL]; exact ⟨hin, hi⟩
        rw [this] at h2
        cases h2
      have hfit2 : ∀ x, x < 2 ^ segN d.blocks → sub x R → x.testBit s = true → fitsL begins s (bitsL (segN d.blocks) x) = true := by
        intro x hx hsub hbit
        have hin : ∀ i, x.testBit i = true → i < segN d.blocks := fun i hi => by
          have := sub_bit (fullM_sub.2 hx) hi
          rw [fullM_bit] at this
          simpa using this
        unfold fitsL
        simp only [Bool.and_eq_true, List.all_eq_true, List.contains_iff_mem, Bool.not_eq_true', mem_bitsL]
        refine ⟨⟨hin s hbit, hbit⟩, fun l hl j hj => ?_⟩
        cases hc : (bitsL (segN d.blocks) x).contains j with
        | false => rfl
        | true =>
          exfalso
          rw [List.contains_iff_mem, mem_bitsL] at hc
          have := sub_bit hsub hc.2
          rw [← hR, restM_bit] at this
          simp only [Bool.and_eq_true, Bool.not_eq_true', List.any_eq_false, List.contains_iff_mem] at this
          exact this.2 l hl hj
      have hrec : ∀ x, x < 2 ^ segN d.blocks → x ≠ 0 → sub x R → fewL d f (begins ++ [bitsL (segN d.blocks) x]) = encF (begins ++ [bitsL (segN d.blocks) x]) d (solve (legalX d) (payX d) (R ^^^ x)) := by
        intro x hx hx0 hsub
        have e : restM (segN d.blocks) (begins ++ [bitsL (segN d.blocks) x]) = R ^^^ x := by
          refine Nat.eq_of_testBit_eq fun i => ?_
          rw [rest_bit hsub, ← hR, restM_bit, restM_bit, List.any_append]
          simp only [List.any_cons, List.any_nil, Bool.or_false]
          have h2 : (bitsL (segN d.blocks) x).contains i = (decide (i < segN d.blocks) && x.testBit i) := by
            rw [Bool.eq_iff_iff, List.contains_iff_mem, mem_bitsL]
            simp
          rw [h2]
          cases decide (i < segN d.blocks) <;> simp
        have hlt := rest_lt hsub hx0
        rw [ih _ (by rw [e]; omega), e]
      have key : ∀ (ls : List (List Nat)) (done : Nat → Prop) (b : BV), (∀ l ∈ ls, l ∈ legalDs d) → Tried (legalX d) (payX d) R (lowB R) done b →
          ∃ b', Tried (legalX d) (payX d) R (lowB R) (fun y => done y ∨ bitsL (segN d.blocks) y ∈ ls) b' ∧ ls.foldl (fun acc l => if fitsL begins s l then fewStep (fewL d f (begins ++ [l])) acc else acc) (encF begins d b) = encF begins d b' := by
        intro ls
        induction ls with
        | nil => intro done b _ h; exact ⟨b, by simpa using h, rfl⟩
        | cons l t iht =>
          intro done b hl h
          obtain ⟨x, hx0, hx, rfl, hleg⟩ := mem_legalDs.1 (hl l (by simp))
          have hstep : ∃ b1, Tried (legalX d) (payX d) R (lowB R) (fun y => done y ∨ y = x) b1 ∧ (if fitsL begins s (bitsL (segN d.blocks) x) then fewStep (fewL d f (begins ++ [bitsL (segN d.blocks) x])) (encF begins d b) else encF begins d b) = encF begins d b1 := by
            cases hfi : fitsL begins s (bitsL (segN d.blocks) x) with
            | false =>
              by_cases hsub : sub x R
              · refine ⟨b, tried_skip h ?_, by simp⟩
                left
                cases hbit : x.testBit (lowB R) with
                | false => rfl
                | true =>
                  rw [hlow] at hbit
                  rw [hfit2 x hx hsub hbit] at hfi
                  cases hfi
              · refine ⟨b, ⟨fun hc => ?_, fun hc => ?_⟩, by simp⟩
                · obtain ⟨h1, h2, h3, h4⟩ := h.none hc
                  refine ⟨h1, h2, h3, fun y hy hys => ?_⟩
                  rcases hy with hy | rfl
                  · exact h4 y hy hys
                  · exact absurd hys hsub
                · obtain ⟨h1, h2, h3, h4, h5⟩ := h.some hc
                  refine ⟨h1, h2, h3, h4, fun y hy hys => ?_⟩
                  rcases hy with hy | rfl
                  · exact h5 y hy hys
                  · exact absurd hys hsub
            | true =>
              obtain ⟨hsub, hbit⟩ := hfit x hx hfi
              have hlt := rest_lt hsub hx0
              have hr := solve_good (legal := legalX d) (pay := payX d) (R ^^^ x) (Nat.lt_trans hlt h16)
              have hpx : payL d (bitsL (segN d.blocks) x) = payX d x := rfl
              rw [hrec x hx hx0 hsub]
              simp only [if_true]
              cases hcan : (solve (legalX d) (payX d) (R ^^^ x)).can with
              | false =>
                refine ⟨b, tried_no h hr (.inl hcan), ?_⟩
                unfold fewStep
                rw [if_neg]
                intro hh
                simp only [encF, hcan] at hh
                have := hh.1
                simp at this
              | true =>
                have hn0 : 0 ≤ (solve (legalX d) (payX d) (R ^^^ x)).n := by
                  obtain ⟨⟨ds, _, h2, _⟩, _⟩ := hr.some hcan
                  omega
                have e1 : encF (begins ++ [bitsL (segN d.blocks) x]) d (solve (legalX d) (payX d) (R ^^^ x)) = ((begins.length : Int) + ((solve (legalX d) (payX d) (R ^^^ x)).n + 1), sumI (begins.map (payL d)) + ((solve (legalX d) (payX d) (R ^^^ x)).pay + payX d x)) := by
                  simp only [encF, hcan, if_true, List.length_append, List.length_cons, List.length_nil, List.map_append, List.map_cons, List.map_nil, sumI_append, sumI, hpx]
                  exact Prod.ext (by simp; omega) (by simp; omega)
                rw [e1]
                by_cases hbetter : b.can = false ∨ (solve (legalX d) (payX d) (R ^^^ x)).n + 1 < b.n ∨ (solve (legalX d) (payX d) (R ^^^ x)).n + 1 = b.n ∧ (solve (legalX d) (payX d) (R ^^^ x)).pay + payX d x < b.pay
                · refine ⟨_, tried_take h hsub hx0 hleg hr hcan hbetter, ?_⟩
                  unfold fewStep
                  rw [if_pos]
                  · simp [encF]
                  · refine ⟨by simp only; omega, ?_⟩
                    rcases hbetter with hb1 | hb1
                    · left; simp [encF, hb1]
                    · cases hbc : b.can with
                      | false => left; simp [encF, hbc]
                      | true =>
                        right
                        simp only [encF, hbc, if_true]
                        omega
                · have hbc : b.can = true := by
                    cases hbc : b.can with
                    | true => rfl
                    | false => exact absurd (.inl hbc) hbetter
                  have hbn : 0 ≤ b.n := by
                    obtain ⟨_, _, _, ⟨⟨ds, _, h2, _⟩, _⟩, _⟩ := h.some hbc
                    omega
                  refine ⟨b, tried_no h hr (.inr ⟨hbc, ?_⟩), ?_⟩
                  · unfold lexLe
                    simp only [hbc, Bool.true_eq_false, false_or] at hbetter
                    omega
                  · unfold fewStep
                    rw [if_neg]
                    simp only [hbc, Bool.true_eq_false, false_or] at hbetter
                    simp only [encF, hbc, if_true]
                    omega
          obtain ⟨b1, hb1, e1⟩ := hstep
          obtain ⟨b', hb', e'⟩ := iht _ b1 (fun l hl' => hl l (by simp [hl'])) hb1
          refine ⟨b', ?_, ?_⟩
          · refine ⟨fun hc => ?_, fun hc => ?_⟩
            · obtain ⟨h1, h2, h3, h4⟩ := hb'.none hc
              refine ⟨h1, h2, h3, fun y hy hys hyb hyl => h4 y ?_ hys hyb hyl⟩
              rcases hy with hy | hy
              · exact .inl (.inl hy)
              · rcases List.mem_cons.1 hy with hy | hy
                · left; right
                  have hyR : y < 2 ^ segN d.blocks := by
                    refine fullM_sub.1 (sub_of_bits fun i hi => ?_)
                    have := sub_bit hys hi
                    rw [← hR, restM_bit] at this
                    rw [fullM_bit]
                    simp only [Bool.and_eq_true] at this
                    exact this.1
                  rw [← mask_bitsL hyR, hy, mask_bitsL hx]
                · exact .inr hy
            · obtain ⟨h1, h2, h3, h4, h5⟩ := hb'.some hc
              refine ⟨h1, h2, h3, h4, fun y hy hys hyb hyl => h5 y ?_ hys hyb hyl⟩
              rcases hy with hy | hy
              · exact .inl (.inl hy)
              · rcases List.mem_cons.1 hy with hy | hy
                · left; right
                  have hyR : y < 2 ^ segN d.blocks := by
                    refine fullM_sub.1 (sub_of_bits fun i hi => ?_)
                    have := sub_bit hys hi
                    rw [← hR, restM_bit] at this
                    rw [fullM_bit]
                    simp only [Bool.and_eq_true] at this
                    exact this.1
                  rw [← mask_bitsL hyR, hy, mask_bitsL hx]
                · exact .inr hy
          · rw [List.foldl_cons, e1]
            exact e'
      obtain ⟨b', hb', e'⟩ := key (legalDs d) (fun _ => False) ⟨0, 0, 0, false⟩ (fun l h => h) (tried_start R (lowB R))
      have e0 : encF begins d ⟨0, 0, 0, false⟩ = (-1, 0) := rfl
      rw [e0] at e'
      refine Eq.trans e' ?_
      have hgood : Good (legalX d) (payX d) R b' := by
        have hRn : ∀ x, sub x R → x < 2 ^ segN d.blocks := fun x hx => fullM_sub.1 (sub_of_bits fun i hi => by
          have := sub_bit hx hi
          rw [← hR, restM_bit] at this
          rw [fullM_bit]
          simp only [Bool.and_eq_true] at this
          exact this.1)
        refine tried_all (legal := legalX d) (low := lowB R) (done := fun y => (False ∨ bitsL (segN d.blocks) y ∈ legalDs d) ∨ legalX d y = false) (by rw [hlow]; exact hb) ?_ fun x hx hx0 => ?_
        · refine ⟨fun hc => ?_, fun hc => ?_⟩
          · obtain ⟨h1, h2, h3, h4⟩ := hb'.none hc
            refine ⟨h1, h2, h3, fun y hy hys hyb hyl => h4 y ?_ hys hyb hyl⟩
            rcases hy with hy | hy
            · exact hy
            · rw [hy] at hyl; cases hyl
          · obtain ⟨h1, h2, h3, h4, h5⟩ := hb'.some hc
            refine ⟨h1, h2, h3, h4, fun y hy hys hyb hyl => h5 y ?_ hys hyb hyl⟩
            rcases hy with hy | hy
            · exact hy
            · rw [hy] at hyl; cases hyl
        · cases hlx : legalX d x with
          | false => exact .inr rfl
          | true => exact .inl (.inr (mem_legalDs.2 ⟨x, hx0, hRn x hx, rfl, hlx⟩))
      have hgs := solve_good (legal := legalX d) (pay := payX d) R h16
      cases hc : b'.can with
      | true =>
        cases hc2 : (solve (legalX d) (payX d) R).can with
        | true =>
          obtain ⟨e1, e2⟩ := min_unique (hgood.some hc) (hgs.some hc2)
          simp [encF, hc, hc2, e1, e2]
        | false =>
          obtain ⟨⟨ds, hp, _⟩, _⟩ := hgood.some hc
          exact absurd hp ((hgs.none hc2).2.2.2 ds)
      | false =>
        cases hc2 : (solve (legalX d) (payX d) R).can with
        | true =>
          obtain ⟨⟨ds, hp, _⟩, _⟩ := hgs.some hc2
          exact absurd hp ((hgood.none hc).2.2.2 ds)
        | false => simp [encF, hc, hc2]
/-- The reference's fewest duties. -/
theorem few_best {d : DDay} (hn : segN d.blocks ≤ 16) (f : Nat) (hf : fullM (segN d.blocks) ≤ f) : fewL d f [] = if (bestV d).can then ((bestV d).n, (bestV d).pay) else (-1, 0) := by
  rw [few_good hn f [] (by rw [restM_nil]; exact hf), restM_nil]
  unfold encF bestV
  simp [sumI]
end Go.Proofs.YtckgapeednokjaaGreat
namespace Go.Proofs.YtckgapeednokjaaGreat

/-! ### What is in a piece -/
theorem raw_cover {bl : List (List Rel)} (l : List Nat) (hr : l.Pairwise (· < ·)) (hl : ∀ n ∈ l, n < segN bl) : ∀ m, m ∈ l ↔ ∃ p ∈ rawP (segs bl) l, p.first ≤ m ∧ m < p.first + (p.to - p.fr) := by
  obtain ⟨k, hk⟩ : ∃ k, l.length = k := ⟨_, rfl⟩
  induction k generalizing l with
  | zero =>
    have : l = [] := List.eq_nil_of_length_eq_zero hk
    subst this
    intro m
    simp [rawP]
  | succ k ih =>
    rcases List.eq_nil_or_concat l with rfl | ⟨t, n, rfl⟩
    · simp at hk
    · simp only [List.concat_eq_append] at *
      rw [List.pairwise_append] at hr
      have hlt : ∀ m ∈ t, m < n := fun m hm => hr.2.2 m hm n (by simp)
      have hlt' := fun m (hm : m ∈ t) => hl m (by simp [hm])
      have h := ih t hr.1 hlt' (by simpa using hk)
      have hok := raw_ok t hr.1 hlt'
      obtain ⟨b, i, hs, hb, hi, hn⟩ := segs_some (hl n (by simp))
      intro m
      rcases List.eq_nil_or_concat (rawP (segs bl) t) with e | ⟨ps, p, e⟩
      · have e2 : rawP (segs bl) (t ++ [n]) = [⟨b, i, i + 1, n⟩] := by rw [rawP_snoc, e, hs]; rfl
        rw [e2]
        have ht : t = [] := by
          cases t with
          | nil => rfl
          | cons a t => exact absurd e (hok.nonempty (by simp))
        subst ht
        simp
        omega
      · simp only [List.concat_eq_append] at e
        have e2 : rawP (segs bl) (t ++ [n]) = if p.b = b ∧ p.to = i then ps ++ [{ p with to := i + 1 }] else ps ++ [p, ⟨b, i, i + 1, n⟩] := by rw [rawP_snoc, e, hs]; exact addP_last _ _ _ _
        have hp0 := hok.ok p (by rw [e]; simp)
        have h' := h m
        rw [e] at h'
        rw [e2, List.mem_append, List.mem_singleton, h']
        by_cases hc : p.b = b ∧ p.to = i
        · rw [if_pos hc]
          obtain ⟨rfl, rfl⟩ := hc
          constructor
          · rintro (⟨q, hq, hq1, hq2⟩ | rfl)
            · rcases List.mem_append.1 hq with hq | hq
              · exact ⟨q, by simp [hq], hq1, hq2⟩
              · simp at hq
                subst hq
                exact ⟨_, List.mem_append.2 (.inr (List.mem_singleton.2 rfl)), hq1, by simp only; omega⟩
            · exact ⟨_, List.mem_append.2 (.inr (List.mem_singleton.2 rfl)), by simp only; omega, by simp only; omega⟩
          · rintro ⟨q, hq, hq1, hq2⟩
            rcases List.mem_append.1 hq with hq | hq
            · exact .inl ⟨q, by simp [hq], hq1, hq2⟩
            · simp at hq
              subst hq
              simp only at hq1 hq2
              by_cases e3 : m = n
              · exact .inr e3
              · exact .inl ⟨p, by simp, hq1, by omega⟩
        · rw [if_neg hc]
          constructor
          · rintro (⟨q, hq, hq1, hq2⟩ | rfl)
            · rcases List.mem_append.1 hq with hq | hq
              · exact ⟨q, by simp [hq], hq1, hq2⟩
              · simp at hq
                subst hq
                exact ⟨q, by simp, hq1, hq2⟩
            · exact ⟨⟨b, i, i + 1, m⟩, by simp, by simp, by simp⟩
          · rintro ⟨q, hq, hq1, hq2⟩
            rcases List.mem_append.1 hq with hq | hq
            · exact .inl ⟨q, by simp [hq], hq1, hq2⟩
            · simp at hq
              rcases hq with rfl | rfl
              · exact .inl ⟨q, by simp, hq1, hq2⟩
              · simp only at hq1 hq2
                exact .inr (by omega)
theorem pieces_mem {d : DDay} {l : List Nat} {p : Pc} : p ∈ piecesL d l ↔ p ∈ rawP (segs d.blocks) l := (srtP_perm _ _).mem_iff
theorem pieces_ne {d : DDay} {l : List Nat} (h : IsDuty d l) : piecesL d l ≠ [] := fun e => by
  have h1 := (raw_ok l h.rise h.lt).nonempty h.some
  have h2 := (srtP_perm d.blocks (rawP (segs d.blocks) l)).length_eq
  have h3 : srtP d.blocks (rawP (segs d.blocks) l) = [] := e
  rw [h3] at h2
  exact h1 (List.eq_nil_of_length_eq_zero (by simpa using h2.symm))

/-! ### Times by which breaks are kept -/
section
variable {d : DDay} {tb te : Nat → Nat → Int}
theorem rests_pair (hb : 0 < d.law.brk) (hw : ∀ a b, 0 ≤ walkAt d.walk a b) : ∀ (ps : List Pc), (∀ p ∈ ps, 0 ≤ durP tb te p) → ((restsP d tb te ps).all fun n => decide (d.law.brk ≤ n)) = true → ps.Pairwise fun p q => te p.b p.to < tb q.b q.fr
  | [], _, _ => List.Pairwise.nil
  | [p], _, _ => by simp
  | p :: q :: t, hd, h => by
    simp only [restsP, List.all_cons, Bool.and_eq_true, decide_eq_true_eq] at h
    have ih := rests_pair hb hw (q :: t) (fun r hr => hd r (by simp [hr])) h.2
    have hg : 0 ≤ gapP d p q := hw _ _
    have hq : te p.b p.to < tb q.b q.fr := by omega
    rw [List.pairwise_cons]
    refine ⟨fun r hr => ?_, ih⟩
    rcases List.mem_cons.1 hr with rfl | hr
    · exact hq
    · have h1 := (List.pairwise_cons.1 ih).1 r hr
      have h2 := hd q (by simp)
      unfold durP at h2
      omega
theorem spread_ge : ∀ (ps : List Pc), (∀ p ∈ ps, 0 ≤ durP tb te p) → (ps.Pairwise fun p q => te p.b p.to < tb q.b q.fr) → ∀ q ∈ ps, durP tb te q + d.law.off + d.law.on ≤ spreadP d tb te ps
  | [], _, _, q, hq => by simp at hq
  | p :: t, hd, hp, q, hq => by
    unfold spreadP
    simp only [List.head?_cons]
    cases hl : (p :: t).getLast? with
    | none => simp at hl
    | some z =>
      simp only
      have hz : z ∈ p :: t := List.mem_of_getLast? hl
      have hpq : tb p.b p.fr ≤ tb q.b q.fr := by
        rcases List.mem_cons.1 hq with rfl | hq
        · omega
        · have h1 := (List.pairwise_cons.1 hp).1 q hq
          have h2 := hd p (by simp)
          unfold durP at h2
          omega
      have hqz : te q.b q.to ≤ te z.b z.to := by
        obtain ⟨i, hi, rfl⟩ := List.getElem_of_mem hq
        rw [List.getLast?_eq_getElem?] at hl
        obtain ⟨hj, rfl⟩ := List.getElem?_eq_some_iff.1 hl
        by_cases e : i = (p :: t).length - 1
        · subst e; omega
        · have h1 := List.pairwise_iff_getElem.1 hp i ((p :: t).length - 1) hi hj (by omega)
          have h2 := hd _ hz
          unfold durP at h2
          omega
      unfold durP
      omega
end
theorem sumD_mem : ∀ {l : List Int}, (∀ x ∈ l, 0 ≤ x) → ∀ {x : Int}, x ∈ l → x ≤ sumD l
  | [], _, x, hx => by simp at hx
  | a :: l, h, x, hx => by
    have h0 : ∀ {m : List Int}, (∀ y ∈ m, 0 ≤ y) → 0 ≤ sumD m := by
      intro m
      induction m with
      | nil => intro _; simp [sumD]
      | cons b m ih =>
        intro hm
        have := ih fun y hy => hm y (by simp [hy])
        have := hm b (by simp)
        simp only [sumD]
        omega
    have h1 := h0 (m := l) fun y hy => h y (by simp [hy])
    have h2 := h a (by simp)
    simp only [sumD]
    rcases List.mem_cons.1 hx with rfl | hx
    · omega
    · have := sumD_mem (fun y hy => h y (by simp [hy])) hx
      omega

/-- Is a duty legal? In words. -/
theorem obeys_iff {d : DDay} {tb te : Nat → Nat → Int} {ps : List Pc} : obeysB d tb te ps = true ↔ (ps.length : Int) ≤ d.law.pieces ∧ (∀ p ∈ ps, durP tb te p ≤ d.law.piece) ∧ driveP tb te ps ≤ d.law.drive ∧ (∀ n ∈ restsP d tb te ps, d.law.brk ≤ n) ∧ spreadP d tb te ps ≤ d.law.spread := by
  simp only [obeysB, Bool.and_eq_true, decide_eq_true_eq, List.all_eq_true]

section
variable {d : DDay} (h : DayOk d)
include h
theorem dur_pos {l : List Nat} (hd : IsDuty d l) : ∀ p ∈ piecesL d l, 0 ≤ durP (loT d.blocks) (hiT d.blocks) p := fun p hp => by
  obtain ⟨h1, h2, h3, h4⟩ := (raw_ok l hd.rise hd.lt).ok p (pieces_mem.1 hp)
  have a := rise_le h (b := p.b) (i := p.fr) (j := p.to) (by omega) h3
  have b := rel_any h p.b p.to
  unfold durP
  omega
omit h in
theorem single_pieces {s : Nat} (hs : s < segN d.blocks) : ∃ b i, (segs d.blocks)[s]? = some (b, i) ∧ b < d.blocks.length ∧ i + 1 < (d.blocks[b]?.getD []).length ∧ s = offB d.blocks b + i ∧ piecesL d [s] = [⟨b, i, i + 1, s⟩] := by
  obtain ⟨b, i, h1, h2, h3, h4⟩ := segs_some hs
  refine ⟨b, i, h1, h2, h3, h4, ?_⟩
  have e : rawP (segs d.blocks) [s] = [⟨b, i, i + 1, s⟩] := by simp [rawP, addP, h1]
  unfold piecesL
  rw [e]
  rfl
/-- What is in a legal duty is legal alone. -/
theorem legal_single {l : List Nat} (hd : IsDuty d l) (hl : legalL d l = true) {s : Nat} (hs : s ∈ l) : legalL d [s] = true := by
  obtain ⟨b, i, h1, h2, h3, h4, h5⟩ := single_pieces (hd.lt s hs)
  obtain ⟨p, hp, hp1, hp2⟩ := (raw_cover l hd.rise hd.lt s).1 hs
  obtain ⟨k1, k2, k3, k4⟩ := (raw_ok l hd.rise hd.lt).ok p hp
  have hpp : p ∈ piecesL d l := pieces_mem.2 hp
  have hpos := dur_pos h hd
  unfold legalL at hl ⊢
  rw [obeys_iff] at hl
  obtain ⟨l1, l2, l3, l4, l5⟩ := hl
  have hbrk := h.law.brk
  have hpw := rests_pair (by omega) (fun a b => (walk_any h a b).1) _ hpos (by simpa using l4)
  have hsp := spread_ge (d := d) _ hpos hpw p hpp
  have hpb : p.b = b ∧ p.fr ≤ i ∧ i + 1 ≤ p.to := by
    have e : (segs d.blocks)[s]? = some (p.b, s - offB d.blocks p.b) := segs_get.2 ⟨k1, by omega, by omega⟩
    rw [h1] at e
    cases e
    exact ⟨rfl, by omega, by omega⟩
  obtain ⟨rfl, hfr, hto⟩ := hpb
  have r1 := rise_le h (b := p.b) hfr (by omega)
  have r2 := rise_le h (b := p.b) hto k3
  have hdp : durP (loT d.blocks) (hiT d.blocks) ⟨p.b, i, i + 1, s⟩ ≤ durP (loT d.blocks) (hiT d.blocks) p := by
    unfold durP
    simp only
    omega
  have hdr : durP (loT d.blocks) (hiT d.blocks) p ≤ driveP (loT d.blocks) (hiT d.blocks) (piecesL d l) := by
    unfold driveP
    exact sumD_mem (fun x hx => by
      obtain ⟨q, hq, rfl⟩ := List.mem_map.1 hx
      exact hpos q hq) (List.mem_map.2 ⟨p, hpp, rfl⟩)
  have hpi := l2 p hpp
  have hpc := h.law.pieces
  rw [h5, obeys_iff]
  refine ⟨by simp; omega, ?_, ?_, by simp [restsP], ?_⟩
  · intro q hq
    simp at hq
    subst hq
    omega
  · simp only [driveP, List.map_cons, List.map_nil, sumD]
    omega
  · have e : spreadP d (loT d.blocks) (hiT d.blocks) [⟨p.b, i, i + 1, s⟩] = durP (loT d.blocks) (hiT d.blocks) ⟨p.b, i, i + 1, s⟩ + d.law.off + d.law.on := by
      simp only [spreadP, List.head?_cons, List.getLast?_singleton, durP]
      omega
    rw [e]
    omega
omit h in
theorem bits_one {n s : Nat} (hs : s < n) : bitsL n (1 <<< s) = [s] := by
  refine asc_unique (bitsL_asc _ _) (by simp) fun i => ?_
  rw [mem_bitsL, bit_one]
  simp
  omega
/-- There is a best plan just if each segment alone is legal. -/
theorem best_iff : (bestV d).can = true ↔ ∀ s, s < segN d.blocks → legalL d [s] = true := by
  have hn : segN d.blocks ≤ 16 := by have := h.segs; omega
  constructor
  · intro hc s hs
    have hp := best_plan hn hc
    have h1 := hp.once s hs
    have h2 : 0 < (bestP d).countP fun l => decide (s ∈ l) := by omega
    obtain ⟨l, hl, hsl⟩ := List.countP_pos_iff.1 h2
    exact legal_single h (hp.duty l hl) (hp.legal l hl) (by simpa using hsl)
  · intro hall
    refine best_exists hn (plan := (List.range (segN d.blocks)).map fun s => [s]) ⟨fun l hl => ?_, fun l hl => ?_, fun s hs => ?_⟩
    · obtain ⟨s, hs, rfl⟩ := List.mem_map.1 hl
      exact ⟨by simp, by simpa using List.mem_range.1 hs, by simp⟩
    · obtain ⟨s, hs, rfl⟩ := List.mem_map.1 hl
      exact hall s (List.mem_range.1 hs)
    · rw [List.countP_map]
      have e : ((fun l : List Nat => decide (s ∈ l)) ∘ fun s => [s]) = fun x => x == s := by
        funext x
        simp only [Function.comp_apply, List.mem_singleton]
        rw [Bool.eq_iff_iff]
        simp only [decide_eq_true_eq, beq_iff_eq]
        exact eq_comm
      rw [e]
      have h1 : List.count s (List.range (segN d.blocks)) ≤ 1 := List.nodup_iff_count.1 List.nodup_range s
      have h2 : 0 < List.count s (List.range (segN d.blocks)) := List.count_pos_iff.2 (List.mem_range.2 hs)
      unfold List.count at h1 h2
      omega
/-- The segments that no legal duty has. -/
def barredL (d : DDay) : List Nat := (List.range (segN d.blocks)).filter fun s => !legalL d [s]
omit h in
theorem isDuty_bits {d : DDay} {x : Nat} (hx : x < 2 ^ segN d.blocks) (h0 : x ≠ 0) : IsDuty d (bitsL (segN d.blocks) x) :=
  ⟨bitsL_asc _ _, fun i hi => (mem_bitsL.1 hi).1, fun e => by
    have := mask_bitsL hx
    rw [e] at this
    exact h0 this.symm⟩
end
end Go.Proofs.YtckgapeednokjaaGreat
namespace Go.Proofs.YtckgapeednokjaaGreat

/-! ### What is legal by some times is legal by easier ones -/
section
variable {d d' : DDay} {tb te tb' te' : Nat → Nat → Int} {f : Pc → Pc}
/-- Nothing is harder. -/
structure Easier (d d' : DDay) (tb te tb' te' : Nat → Nat → Int) (f : Pc → Pc) (ps : List Pc) : Prop where
  pieces : d.law.pieces ≤ d'.law.pieces
  piece : d.law.piece ≤ d'.law.piece
  drive : d.law.drive ≤ d'.law.drive
  spread : d.law.spread ≤ d'.law.spread
  brk : d'.law.brk ≤ d.law.brk
  on : d'.law.on ≤ d.law.on
  off : d'.law.off ≤ d.law.off
  fr : ∀ p ∈ ps, tb p.b p.fr ≤ tb' (f p).b (f p).fr
  to : ∀ p ∈ ps, te' (f p).b (f p).to ≤ te p.b p.to
  gap : ∀ p ∈ ps, ∀ q ∈ ps, gapP d' (f p) (f q) ≤ gapP d p q
theorem Easier.sub {ps qs : List Pc} (h : Easier d d' tb te tb' te' f ps) (hs : ∀ p ∈ qs, p ∈ ps) : Easier d d' tb te tb' te' f qs :=
  { h with fr := fun p hp => h.fr p (hs p hp), to := fun p hp => h.to p (hs p hp), gap := fun p hp q hq => h.gap p (hs p hp) q (hs q hq) }
theorem easier_dur {ps : List Pc} (h : Easier d d' tb te tb' te' f ps) {p : Pc} (hp : p ∈ ps) : durP tb' te' (f p) ≤ durP tb te p := by
  have h1 := h.fr p hp
  have h2 := h.to p hp
  unfold durP
  omega
theorem easier_drive : ∀ {ps : List Pc}, Easier d d' tb te tb' te' f ps → driveP tb' te' (ps.map f) ≤ driveP tb te ps
  | [], _ => by simp [driveP, sumD]
  | p :: t, h => by
    have h1 := easier_drive (h.sub fun q hq => by simp [hq] : Easier d d' tb te tb' te' f t)
    have h2 := easier_dur h (p := p) (by simp)
    unfold driveP at h1 ⊢
    simp only [List.map_cons, sumD]
    omega
theorem easier_rests : ∀ {ps : List Pc}, Easier d d' tb te tb' te' f ps → (∀ n ∈ restsP d tb te ps, d.law.brk ≤ n) → ∀ n ∈ restsP d' tb' te' (ps.map f), d'.law.brk ≤ n
  | [], _, _ => by simp [restsP]
  | [p], _, _ => by simp [restsP]
  | p :: q :: t, h, hr => by
    intro n hn
    simp only [List.map_cons, restsP] at hn hr
    rcases List.mem_cons.1 hn with rfl | hn
    · have h0 := hr _ (List.mem_cons_self ..)
      have h1 := h.to p (by simp)
      have h2 := h.fr q (by simp)
      have h3 := h.gap p (by simp) q (by simp)
      have h4 := h.brk
      omega
    · exact easier_rests (ps := q :: t) (h.sub fun r hr => by simp at hr ⊢; exact .inr hr) (fun n hn => hr n (by simp [hn])) n (by simpa using hn)
theorem easier_spread {ps : List Pc} (h : Easier d d' tb te tb' te' f ps) (h0 : ps ≠ []) : spreadP d' tb' te' (ps.map f) ≤ spreadP d tb te ps := by
  cases hp : ps.head? with
  | none => exact absurd (List.head?_eq_none_iff.1 hp) h0
  | some p =>
    cases hq : ps.getLast? with
    | none => exact absurd (List.getLast?_eq_none_iff.1 hq) h0
    | some q =>
      have h1 := h.fr p (List.mem_of_head? hp)
      have h2 := h.to q (List.mem_of_getLast? hq)
      have h3 := h.on
      have h4 := h.off
      simp only [spreadP, List.head?_map, List.getLast?_map, hp, hq, Option.map_some]
      omega
theorem easier_obeys {ps : List Pc} (h : Easier d d' tb te tb' te' f ps) (h0 : ps ≠ []) (hl : obeysB d tb te ps = true) : obeysB d' tb' te' (ps.map f) = true := by
  rw [obeys_iff] at hl ⊢
  obtain ⟨l1, l2, l3, l4, l5⟩ := hl
  refine ⟨?_, fun p hp => ?_, ?_, easier_rests h l4, ?_⟩
  · have := h.pieces; simp; omega
  · obtain ⟨q, hq, rfl⟩ := List.mem_map.1 hp
    have := l2 q hq
    have := easier_dur h hq
    have := h.piece
    omega
  · have := easier_drive h
    have := h.drive
    omega
  · have := easier_spread h h0
    have := h.spread
    omega
end

/-! ### Pieces of one block lie apart -/
theorem raw_apart {bl : List (List Rel)} (l : List Nat) (hr : l.Pairwise (· < ·)) (hl : ∀ n ∈ l, n < segN bl) : (rawP (segs bl) l).Pairwise fun p q => p.b = q.b → p.to < q.fr := by
  obtain ⟨k, hk⟩ : ∃ k, l.length = k := ⟨_, rfl⟩
  induction k generalizing l with
  | zero =>
    have : l = [] := List.eq_nil_of_length_eq_zero hk
    subst this
    simp [rawP]
  | succ k ih =>
    rcases List.eq_nil_or_concat l with rfl | ⟨t, n, rfl⟩
    · simp at hk
    · simp only [List.concat_eq_append] at *
      rw [List.pairwise_append] at hr
      have hlt : ∀ m ∈ t, m < n := fun m hm => hr.2.2 m hm n (by simp)
      have hlt' := fun m (hm : m ∈ t) => hl m (by simp [hm])
      have h := ih t hr.1 hlt' (by simpa using hk)
      have hok := raw_ok t hr.1 hlt'
      have hcov := raw_cover t hr.1 hlt'
      obtain ⟨b, i, hs, hb, hi, hn⟩ := segs_some (hl n (by simp))
      rcases List.eq_nil_or_concat (rawP (segs bl) t) with e | ⟨ps, p, e⟩
      · have e2 : rawP (segs bl) (t ++ [n]) = [⟨b, i, i + 1, n⟩] := by rw [rawP_snoc, e, hs]; rfl
        rw [e2]
        simp
      · simp only [List.concat_eq_append] at e
        have e2 : rawP (segs bl) (t ++ [n]) = if p.b = b ∧ p.to = i then ps ++ [{ p with to := i + 1 }] else ps ++ [p, ⟨b, i, i + 1, n⟩] := by rw [rawP_snoc, e, hs]; exact addP_last _ _ _ _
        rw [e] at h
        by_cases hc : p.b = b ∧ p.to = i
        · rw [e2, if_pos hc]
          rw [List.pairwise_append] at h ⊢
          refine ⟨h.1, by simp, fun x hx y hy => ?_⟩
          simp at hy
          subst hy
          exact h.2.2 x hx p (by simp)
        · rw [e2, if_neg hc, show ps ++ [p, ⟨b, i, i + 1, n⟩] = (ps ++ [p]) ++ [⟨b, i, i + 1, n⟩] by simp, List.pairwise_append]
          refine ⟨h, by simp, fun x hx y hy => ?_⟩
          simp at hy
          subst hy
          intro hxb
          simp only at hxb ⊢
          have hx' : x ∈ rawP (segs bl) t := by rw [e]; exact hx
          obtain ⟨k1, k2, k3, k4⟩ := hok.ok x hx'
          -- the last segment of x is before n
          have hm : x.first + (x.to - x.fr) - 1 ∈ t := (hcov _).2 ⟨x, hx', by omega, by omega⟩
          have h1 := hlt _ hm
          have h2 : x.to ≤ i := by
            rw [hxb] at k4
            omega
          rcases Nat.lt_or_ge x.to i with h3 | h3
          · exact h3
          · exfalso
            have hxi : x.to = i := by omega
            rcases List.mem_append.1 hx with hx | hx
            · have h4 := (List.pairwise_append.1 h).2.2 x hx p (by simp)
              have h5 := hok.asc
              rw [e, List.map_append, List.pairwise_append] at h5
              have h6 := h5.2.2 x.first (List.mem_map.2 ⟨x, hx, rfl⟩) p.first (by simp)
              obtain ⟨m1, m2, m3, m4⟩ := hok.ok p (by rw [e]; simp)
              have hpm : p.first ∈ t := hok.first p (by rw [e]; simp)
              have h7 := hlt _ hpm
              -- p.first lies between x and n, so in this block
              have h8 : (segs bl)[p.first]? = some (b, i - (n - p.first)) := by
                refine segs_get.2 ⟨hb, by omega, ?_⟩
                rw [hxb] at k4
                omega
              have h9 : (segs bl)[p.first]? = some (p.b, p.fr) := segs_get.2 ⟨m1, by omega, m4⟩
              rw [h8] at h9
              simp only [Option.some.injEq, Prod.mk.injEq] at h9
              have := h4 (hxb.trans h9.1)
              rw [hxb] at k4
              omega
            · simp at hx
              subst hx
              exact hc ⟨hxb, hxi⟩

/-- In the sorted list too. -/
theorem pieces_apart {d : DDay} {l : List Nat} (hd : IsDuty d l) {p q : Pc} (hp : p ∈ piecesL d l) (hq : q ∈ piecesL d l) (hb : p.b = q.b) : p = q ∨ p.to < q.fr ∨ q.to < p.fr := by
  have h := raw_apart l hd.rise hd.lt
  rw [pieces_mem] at hp hq
  obtain ⟨i, hi, rfl⟩ := List.getElem_of_mem hp
  obtain ⟨j, hj, rfl⟩ := List.getElem_of_mem hq
  rcases Nat.lt_trichotomy i j with hij | hij | hij
  · exact .inr (.inl (List.pairwise_iff_getElem.1 h i j hi hj hij hb))
  · subst hij; exact .inl rfl
  · exact .inr (.inr (List.pairwise_iff_getElem.1 h j i hj hi hij hb.symm))
theorem mem_rests {d : DDay} {tb te : Nat → Nat → Int} {n : Int} : ∀ {ps : List Pc}, n ∈ restsP d tb te ps ↔ ∃ pre p q post, ps = pre ++ p :: q :: post ∧ n = tb q.b q.fr - te p.b p.to - gapP d p q
  | [] => by simp [restsP]
  | [p] => by
    simp only [restsP, List.not_mem_nil, false_iff, not_exists, not_and]
    intro pre a b post e
    have := congrArg List.length e
    simp at this
    omega
  | p :: q :: t => by
    simp only [restsP, List.mem_cons]
    rw [mem_rests (ps := q :: t)]
    constructor
    · rintro (rfl | ⟨pre, a, b, post, e, rfl⟩)
      · exact ⟨[], p, q, t, rfl, rfl⟩
      · exact ⟨p :: pre, a, b, post, by rw [e]; rfl, rfl⟩
    · rintro ⟨pre, a, b, post, e, rfl⟩
      cases pre with
      | nil =>
        simp only [List.nil_append, List.cons.injEq] at e
        obtain ⟨rfl, rfl, rfl⟩ := e
        exact .inl rfl
      | cons x pre =>
        simp only [List.cons_append, List.cons.injEq] at e
        exact .inr ⟨pre, a, b, post, e.2, rfl⟩

/-! ### The truths that are tried -/
def preT (bl : List (List Rel)) (b a : Nat) : Nat → Nat → Int := fun c i => if c = b then (if i ≤ a then hiT bl c i else max (loT bl c i) (hiT bl c a)) else loT bl c i
def raiseT (bl : List (List Rel)) (ps : List Pc) (c i : Nat) : Int := if ps.any (fun p => p.b == c && (decide (p.fr < i) && decide (i ≤ p.to))) then hiT bl c i else loT bl c i
def worT (bl : List (List Rel)) (ps : List Pc) (c : Nat) : Nat → Int
  | 0 => raiseT bl ps c 0
  | i + 1 => max (raiseT bl ps c (i + 1)) (worT bl ps c i)

section
variable {d : DDay} (h : DayOk d)
include h
theorem wor_le (ps : List Pc) (c : Nat) {M : Int} : ∀ (i : Nat), (∀ j, j ≤ i → raiseT d.blocks ps c j ≤ M) → worT d.blocks ps c i ≤ M
  | 0, hj => hj 0 (Nat.le_refl _)
  | i + 1, hj => by
    have h1 := wor_le ps c i fun j h => hj j (by omega)
    have h2 := hj (i + 1) (Nat.le_refl _)
    simp only [worT]
    omega
omit h in
theorem wor_ge (ps : List Pc) (c i : Nat) : raiseT d.blocks ps c i ≤ worT d.blocks ps c i := by
  cases i with
  | zero => exact Int.le_refl _
  | succ i => simp only [worT]; omega
theorem raise_ge (ps : List Pc) (c i : Nat) : loT d.blocks c i ≤ raiseT d.blocks ps c i := by
  unfold raiseT
  have := rel_any h c i
  split <;> omega
theorem raise_le (ps : List Pc) (c i : Nat) : raiseT d.blocks ps c i ≤ hiT d.blocks c i := by
  unfold raiseT
  have := rel_any h c i
  split <;> omega
theorem wor_worst {l : List Nat} (hd : IsDuty d l) (hp : (piecesL d l).Pairwise fun p q => hiT d.blocks p.b p.to < loT d.blocks q.b q.fr) {p : Pc} (hm : p ∈ piecesL d l) :
    worT d.blocks (piecesL d l) p.b p.fr = loT d.blocks p.b p.fr ∧ worT d.blocks (piecesL d l) p.b p.to = hiT d.blocks p.b p.to := by
  obtain ⟨k1, k2, k3, k4⟩ := (raw_ok l hd.rise hd.lt).ok p (pieces_mem.1 hm)
  constructor
  · have h1 := wor_ge (d := d) (piecesL d l) p.b p.fr
    have h2 := raise_ge h (piecesL d l) p.b p.fr
    have h3 := wor_le h (piecesL d l) p.b p.fr (M := loT d.blocks p.b p.fr) fun j hj => by
      unfold raiseT
      split
      · rename_i ha
        obtain ⟨q, hq, hq2⟩ := List.any_eq_true.1 ha
        simp only [Bool.and_eq_true, beq_iff_eq, decide_eq_true_eq] at hq2
        obtain ⟨e, e2, e3⟩ := hq2
        obtain ⟨m1, m2, m3, m4⟩ := (raw_ok l hd.rise hd.lt).ok q (pieces_mem.1 hq)
        have hne : p ≠ q := fun e4 => by subst e4; omega
        rcases pieces_apart hd hm hq e.symm with h5 | h5 | h5
        · exact absurd h5 hne
        · omega
        · -- q is before p in its block
          have h6 := (rise_le h (b := q.b) e3 m3).2
          obtain ⟨x, hx, ex⟩ := List.getElem_of_mem hm
          obtain ⟨y, hy, ey⟩ := List.getElem_of_mem hq
          rcases Nat.lt_trichotomy x y with hxy | hxy | hxy
          · have h7 := List.pairwise_iff_getElem.1 hp x y hx hy hxy
            rw [ex, ey] at h7
            have h8 := (rise_le h (b := p.b) (i := q.fr) (j := p.fr) (by omega) (by omega)).1
            have h9 := (rise_le h (b := p.b) (i := p.fr) (j := p.to) (by omega) k3).1
            have h10 := rel_any h p.b p.to
            rw [e] at h7
            omega
          · subst hxy
            exact absurd (ex.symm.trans ey) hne
          · have h7 := List.pairwise_iff_getElem.1 hp y x hy hx hxy
            rw [ex, ey] at h7
            rw [e] at h6 h7
            omega
      · exact (rise_le h (b := p.b) hj (by omega)).1
    omega
  · have h1 := wor_ge (d := d) (piecesL d l) p.b p.to
    have h2 : raiseT d.blocks (piecesL d l) p.b p.to = hiT d.blocks p.b p.to := by
      unfold raiseT
      rw [if_pos]
      exact List.any_eq_true.2 ⟨p, hm, by simp; omega⟩
    have h3 := wor_le h (piecesL d l) p.b p.to (M := hiT d.blocks p.b p.to) fun j hj => by
      have := raise_le h (piecesL d l) p.b j
      have := (rise_le h (b := p.b) hj k3).2
      omega
    omega

/-- Times within the ranges. -/
def InRange (d : DDay) (t : Nat → Nat → Int) : Prop := ∀ b i, b < d.blocks.length → i < (d.blocks[b]?.getD []).length → loT d.blocks b i ≤ t b i ∧ t b i ≤ hiT d.blocks b i
omit h in
theorem truth_easier {l : List Nat} (hd : IsDuty d l) {t : Nat → Nat → Int} (ht : InRange d t) : Easier d d (loT d.blocks) (hiT d.blocks) t t id (piecesL d l) :=
  ⟨Int.le_refl _, Int.le_refl _, Int.le_refl _, Int.le_refl _, Int.le_refl _, Int.le_refl _, Int.le_refl _, fun p hp => by
      obtain ⟨k1, k2, k3, k4⟩ := (raw_ok l hd.rise hd.lt).ok p (pieces_mem.1 hp)
      exact (ht p.b p.fr k1 (by omega)).1, fun p hp => by
      obtain ⟨k1, k2, k3, k4⟩ := (raw_ok l hd.rise hd.lt).ok p (pieces_mem.1 hp)
      exact (ht p.b p.to k1 k3).2, fun p _ q _ => Int.le_refl _⟩
/-- What is legal is legal in each truth, and paid at least its spread. -/
theorem legal_truth {l : List Nat} (hd : IsDuty d l) (hl : legalL d l = true) {t : Nat → Nat → Int} (ht : InRange d t) : obeysB d t t (piecesL d l) = true := by
  have := easier_obeys (truth_easier hd ht) (pieces_ne hd) hl
  simpa using this
omit h in
theorem pay_truth {l : List Nat} (hd : IsDuty d l) {t : Nat → Nat → Int} (ht : InRange d t) : spreadP d t t (piecesL d l) ≤ payL d l ∧ d.law.least ≤ payL d l := by
  have := easier_spread (truth_easier hd ht) (pieces_ne hd)
  rw [List.map_id] at this
  unfold payL
  omega
/-- What is not legal is not in some truth that is tried. -/
theorem broken_some {l : List Nat} (hd : IsDuty d l) (hl : legalL d l = false) : obeysB d (worT d.blocks (piecesL d l)) (worT d.blocks (piecesL d l)) (piecesL d l) = false ∨
    ∃ p ∈ piecesL d l, obeysB d (preT d.blocks p.b p.to) (preT d.blocks p.b p.to) (piecesL d l) = false := by
  by_cases hr : ∀ n ∈ restsP d (loT d.blocks) (hiT d.blocks) (piecesL d l), d.law.brk ≤ n
  · left
    have hbrk := h.law.brk
    have hpw := rests_pair (by omega) (fun a b => (walk_any h a b).1) _ (dur_pos h hd) (by simpa using hr)
    rw [Bool.eq_false_iff]
    intro ho
    have he : Easier d d (worT d.blocks (piecesL d l)) (worT d.blocks (piecesL d l)) (loT d.blocks) (hiT d.blocks) id (piecesL d l) :=
      ⟨Int.le_refl _, Int.le_refl _, Int.le_refl _, Int.le_refl _, Int.le_refl _, Int.le_refl _, Int.le_refl _, fun p hp => by rw [(wor_worst h hd hpw hp).1]; exact Int.le_refl _,
        fun p hp => by rw [(wor_worst h hd hpw hp).2]; exact Int.le_refl _, fun p _ q _ => Int.le_refl _⟩
    have h1 := easier_obeys he (pieces_ne hd) ho
    rw [List.map_id] at h1
    unfold legalL at hl
    rw [h1] at hl
    cases hl
  · right
    obtain ⟨n, hn, hlt⟩ : ∃ n, n ∈ restsP d (loT d.blocks) (hiT d.blocks) (piecesL d l) ∧ ¬ d.law.brk ≤ n := by
      refine Classical.byContradiction fun hc => hr fun n hn => Classical.byContradiction fun h2 => hc ⟨n, hn, h2⟩
    obtain ⟨pre, p, q, post, e, rfl⟩ := mem_rests.1 hn
    have hp : p ∈ piecesL d l := by rw [e]; simp
    have hq : q ∈ piecesL d l := by rw [e]; simp
    refine ⟨p, hp, ?_⟩
    rw [Bool.eq_false_iff]
    intro ho
    rw [obeys_iff] at ho
    have h4 := ho.2.2.2.1 _ (mem_rests.2 ⟨pre, p, q, post, e, rfl⟩)
    obtain ⟨k1, k2, k3, k4⟩ := (raw_ok l hd.rise hd.lt).ok p (pieces_mem.1 hp)
    obtain ⟨m1, m2, m3, m4⟩ := (raw_ok l hd.rise hd.lt).ok q (pieces_mem.1 hq)
    have hbef : bef d.blocks p q = true := by
      have h5 := pieces_sorted hd.rise hd.lt
      rw [e, List.pairwise_append] at h5
      exact (List.pairwise_cons.1 h5.2.1).1 q (by simp)
    have hg : 0 ≤ gapP d p q := (walk_any h _ _).1
    have hbrk := h.law.brk
    by_cases hb : q.b = p.b
    · have hap : p.to < q.fr := by
        rcases pieces_apart hd hp hq hb.symm with h6 | h6 | h6
        · subst h6; rw [bef_irrefl] at hbef; cases hbef
        · exact h6
        · exfalso
          have h7 := (rise_le h (b := p.b) (i := q.fr) (j := p.fr) (by omega) (by omega)).1
          simp only [bef, Bool.or_eq_true, Bool.and_eq_true, decide_eq_true_eq] at hbef
          rw [hb] at hbef m4
          omega
      unfold preT at h4
      rw [if_pos hb, if_neg (by omega), if_pos rfl, if_pos (Nat.le_refl _), hb] at h4
      rw [hb] at hlt
      omega
    · unfold preT at h4
      rw [if_neg hb, if_pos rfl, if_pos (Nat.le_refl _)] at h4
      omega
end
end Go.Proofs.YtckgapeednokjaaGreat
namespace Go.Proofs.YtckgapeednokjaaGreat

/-! ### The pieces of a list, in words -/
/-- Is the segment from relief i of block b on in l? -/
def inL (bl : List (List Rel)) (l : List Nat) (b i : Nat) : Prop := offB bl b + i ∈ l
structure IsPc (bl : List (List Rel)) (l : List Nat) (p : Pc) : Prop where
  b : p.b < bl.length
  lt : p.fr < p.to
  to : p.to < (bl[p.b]?.getD []).length
  first : p.first = offB bl p.b + p.fr
  all : ∀ j, p.fr ≤ j → j < p.to → inL bl l p.b j
  left : ∀ j, j + 1 = p.fr → ¬ inL bl l p.b j
  right : p.to + 1 < (bl[p.b]?.getD []).length → ¬ inL bl l p.b p.to
theorem seg_block {bl : List (List Rel)} {b i b' i' : Nat} (hb : b < bl.length) (hi : i + 1 < (bl[b]?.getD []).length) (hb' : b' < bl.length) (hi' : i' + 1 < (bl[b']?.getD []).length) (e : offB bl b + i = offB bl b' + i') : b = b' ∧ i = i' := by
  have h1 : (segs bl)[offB bl b + i]? = some (b, i) := segs_get.2 ⟨hb, hi, rfl⟩
  have h2 : (segs bl)[offB bl b + i]? = some (b', i') := segs_get.2 ⟨hb', hi', e⟩
  rw [h1] at h2
  simpa using h2
theorem mem_raw {bl : List (List Rel)} {l : List Nat} (hr : l.Pairwise (· < ·)) (hl : ∀ n ∈ l, n < segN bl) {p : Pc} : p ∈ rawP (segs bl) l ↔ IsPc bl l p := by
  have hok := raw_ok l hr hl
  have hcov := raw_cover l hr hl
  have hap : ∀ p ∈ rawP (segs bl) l, ∀ q ∈ rawP (segs bl) l, p.b = q.b → p = q ∨ p.to < q.fr ∨ q.to < p.fr := by
    have h := raw_apart l hr hl
    intro p hp q hq hb
    obtain ⟨i, hi, rfl⟩ := List.getElem_of_mem hp
    obtain ⟨j, hj, rfl⟩ := List.getElem_of_mem hq
    rcases Nat.lt_trichotomy i j with hij | hij | hij
    · exact .inr (.inl (List.pairwise_iff_getElem.1 h i j hi hj hij hb))
    · subst hij; exact .inl rfl
    · exact .inr (.inr (List.pairwise_iff_getElem.1 h j i hj hi hij hb.symm))
  -- the piece that has a segment
  have hin : ∀ b i, b < bl.length → i + 1 < (bl[b]?.getD []).length → inL bl l b i → ∃ q ∈ rawP (segs bl) l, q.b = b ∧ q.fr ≤ i ∧ i < q.to := by
    intro b i hb hi h
    obtain ⟨q, hq, h1, h2⟩ := (hcov _).1 h
    obtain ⟨k1, k2, k3, k4⟩ := hok.ok q hq
    have e : b = q.b ∧ i = (offB bl b + i) - offB bl q.b := seg_block hb hi k1 (by omega) (by omega)
    exact ⟨q, hq, e.1.symm, by rw [e.2]; omega, by rw [e.2]; omega⟩
  constructor
  · intro hp
    obtain ⟨k1, k2, k3, k4⟩ := hok.ok p hp
    refine ⟨k1, k2, k3, k4, fun j h1 h2 => (hcov _).2 ⟨p, hp, by omega, by omega⟩, fun j hj h => ?_, fun hlt h => ?_⟩
    · obtain ⟨q, hq, e, h1, h2⟩ := hin p.b j k1 (by omega) h
      rcases hap p hp q hq e.symm with h3 | h3 | h3
      · subst h3; omega
      · omega
      · omega
    · obtain ⟨q, hq, e, h1, h2⟩ := hin p.b p.to k1 hlt h
      rcases hap p hp q hq e.symm with h3 | h3 | h3
      · subst h3; omega
      · omega
      · omega
  · intro hp
    obtain ⟨q, hq, e, h1, h2⟩ := hin p.b p.fr hp.b (by have := hp.lt; have := hp.to; omega) (hp.all _ (Nat.le_refl _) hp.lt)
    obtain ⟨k1, k2, k3, k4⟩ := hok.ok q hq
    have hall : ∀ j, q.fr ≤ j → j < q.to → inL bl l q.b j := fun j h1 h2 => (hcov _).2 ⟨q, hq, by omega, by omega⟩
    have e1 : q.fr = p.fr := by
      rcases Nat.lt_or_ge q.fr p.fr with h3 | h3
      · exfalso
        refine hp.left (p.fr - 1) (by omega) ?_
        rw [← e]
        exact hall _ (by omega) (by omega)
      · omega
    have e2 : q.to = p.to := by
      rcases Nat.lt_trichotomy q.to p.to with h3 | h3 | h3
      · exfalso
        have h4 := hp.all q.to (by omega) h3
        obtain ⟨r, hr, e3, h5, h6⟩ := hin p.b q.to hp.b (by have := hp.to; omega) h4
        rcases hap q hq r hr (e.trans e3.symm) with h7 | h7 | h7
        · subst h7; omega
        · omega
        · omega
      · exact h3
      · exfalso
        refine hp.right (by rw [e] at k3; omega) ?_
        rw [← e]
        exact hall _ (by have := hp.lt; omega) h3
    have : p = q := by
      obtain ⟨pb, pf, pt, p1⟩ := p
      obtain ⟨qb, qf, qt, q1⟩ := q
      have := hp.first
      simp only at *
      subst e e1 e2
      rw [k4, this]
    rw [this]
    exact hq
theorem raw_nodup {bl : List (List Rel)} {l : List Nat} (hr : l.Pairwise (· < ·)) (hl : ∀ n ∈ l, n < segN bl) : (rawP (segs bl) l).Nodup := by
  have h1 := (raw_ok l hr hl).asc
  rw [List.pairwise_map] at h1
  exact h1.imp fun h e => by subst e; omega

/-! ### Days that are moved -/
theorem perm_of_mem {α : Type} [DecidableEq α] {a b : List α} (ha : a.Nodup) (hb : b.Nodup) (h : ∀ x, x ∈ a ↔ x ∈ b) : a.Perm b :=
  (List.perm_ext_iff_of_nodup ha hb).2 h
section
variable {d d' : DDay} {l l' : List Nat} {f g : Pc → Pc}
theorem raw_moved (hd : IsDuty d l) (hd' : IsDuty d' l') (h1 : ∀ p, IsPc d.blocks l p → IsPc d'.blocks l' (f p) ∧ g (f p) = p) (h2 : ∀ p, IsPc d'.blocks l' p → IsPc d.blocks l (g p) ∧ f (g p) = p) :
    (rawP (segs d'.blocks) l').Perm ((rawP (segs d.blocks) l).map f) := by
  refine perm_of_mem (raw_nodup hd'.rise hd'.lt) ?_ fun p => ?_
  · refine List.Pairwise.map _ ?_ (List.Pairwise.and_mem.1 (raw_nodup hd.rise hd.lt))
    rintro a b ⟨ha, hb, hne⟩ e
    apply hne
    rw [← (h1 a ((mem_raw hd.rise hd.lt).1 ha)).2, ← (h1 b ((mem_raw hd.rise hd.lt).1 hb)).2, e]
  · rw [mem_raw hd'.rise hd'.lt, List.mem_map]
    constructor
    · intro hp
      exact ⟨g p, (mem_raw hd.rise hd.lt).2 (h2 p hp).1, (h2 p hp).2⟩
    · rintro ⟨q, hq, rfl⟩
      exact (h1 q ((mem_raw hd.rise hd.lt).1 hq)).1
theorem pieces_moved (hd : IsDuty d l) (hd' : IsDuty d' l') (hp : (rawP (segs d'.blocks) l').Perm ((rawP (segs d.blocks) l).map f)) (hs : ((piecesL d l).map f).Pairwise fun p q => bef d'.blocks p q = true) : piecesL d' l' = (piecesL d l).map f := by
  refine sorted_unique (bl := d'.blocks) ?_ (pieces_sorted hd'.rise hd'.lt) hs
  exact (srtP_perm _ _).trans (hp.trans ((srtP_perm d.blocks (rawP (segs d.blocks) l)).symm.map f))
end
section
variable {d d' : DDay} {tb te tb' te' : Nat → Nat → Int} {f : Pc → Pc} {c : Int}
/-- All is alike, so many minutes later. -/
structure Alike (d d' : DDay) (tb te tb' te' : Nat → Nat → Int) (f : Pc → Pc) (c : Int) (ps : List Pc) : Prop where
  law : d'.law = d.law
  fr : ∀ p ∈ ps, tb' (f p).b (f p).fr = tb p.b p.fr + c
  to : ∀ p ∈ ps, te' (f p).b (f p).to = te p.b p.to + c
  gap : ∀ p ∈ ps, ∀ q ∈ ps, gapP d' (f p) (f q) = gapP d p q
theorem alike_rests : ∀ {ps : List Pc}, Alike d d' tb te tb' te' f c ps → restsP d' tb' te' (ps.map f) = restsP d tb te ps
  | [], _ => rfl
  | [p], _ => rfl
  | p :: q :: t, h => by
    have ih := alike_rests (ps := q :: t) (⟨h.law, fun r hr => h.fr r (List.mem_cons_of_mem _ hr), fun r hr => h.to r (List.mem_cons_of_mem _ hr), fun r hr s hs => h.gap r (List.mem_cons_of_mem _ hr) s (List.mem_cons_of_mem _ hs)⟩ : Alike d d' tb te tb' te' f c (q :: t))
    have h1 := h.to p (by simp)
    have h2 := h.fr q (by simp)
    have h3 := h.gap p (by simp) q (by simp)
    simp only [List.map_cons, restsP] at ih ⊢
    rw [ih, h1, h2, h3]
    congr 1
    omega
theorem alike_dur {ps : List Pc} (h : Alike d d' tb te tb' te' f c ps) {p : Pc} (hp : p ∈ ps) : durP tb' te' (f p) = durP tb te p := by
  have h1 := h.fr p hp
  have h2 := h.to p hp
  unfold durP
  omega
theorem alike_spread {ps : List Pc} (h : Alike d d' tb te tb' te' f c ps) (h0 : ps ≠ []) : spreadP d' tb' te' (ps.map f) = spreadP d tb te ps := by
  cases hp : ps.head? with
  | none => exact absurd (List.head?_eq_none_iff.1 hp) h0
  | some p =>
    cases hq : ps.getLast? with
    | none => exact absurd (List.getLast?_eq_none_iff.1 hq) h0
    | some q =>
      have h1 := h.fr p (List.mem_of_head? hp)
      have h2 := h.to q (List.mem_of_getLast? hq)
      simp only [spreadP, List.head?_map, List.getLast?_map, hp, hq, Option.map_some, h.law]
      omega
theorem alike_obeys {ps : List Pc} (h : Alike d d' tb te tb' te' f c ps) (h0 : ps ≠ []) : obeysB d' tb' te' (ps.map f) = obeysB d tb te ps := by
  have e1 : driveP tb' te' (ps.map f) = driveP tb te ps := by
    unfold driveP
    rw [List.map_map]
    congr 1
    exact List.map_congr_left fun p hp => alike_dur h hp
  have e2 : ((ps.map f).all fun p => decide (durP tb' te' p ≤ d.law.piece)) = ps.all fun p => decide (durP tb te p ≤ d.law.piece) := by
    rw [List.all_map]
    rw [Bool.eq_iff_iff, List.all_eq_true, List.all_eq_true]
    constructor
    · intro hh p hp; have := hh p hp; simp only [Function.comp_apply, alike_dur h hp] at this; exact this
    · intro hh p hp; have := hh p hp; simp only [Function.comp_apply, alike_dur h hp]; exact this
  unfold obeysB
  rw [alike_spread h h0, alike_rests h, e1, h.law, e2, List.length_map]
end
/-! Lists of blocks of the same lengths -/
theorem segs_congr : ∀ {bl bl' : List (List Rel)} {b : Nat}, bl.map List.length = bl'.map List.length → segsFrom b bl = segsFrom b bl'
  | [], [], _, _ => rfl
  | [], _ :: _, _, h => by simp at h
  | _ :: _, [], _, h => by simp at h
  | l :: t, l' :: t', b, h => by
    simp only [List.map_cons, List.cons.injEq] at h
    simp only [segsFrom, h.1, segs_congr (b := b + 1) h.2]
theorem segN_congr {bl bl' : List (List Rel)} (h : bl.map List.length = bl'.map List.length) : segN bl = segN bl' := by
  rw [← segs_length, ← segs_length]
  unfold segs
  rw [segs_congr h]
theorem easier_plan {d d' : DDay} (hn : segN d'.blocks = segN d.blocks) (h : ∀ l, IsDuty d l → legalL d l = true → legalL d' l = true) {plan : List (List Nat)} (hp : IsPlan d plan) : IsPlan d' plan :=
  ⟨fun l hl => by
    have := hp.duty l hl
    exact ⟨this.rise, by rw [hn]; exact this.lt, this.some⟩, fun l hl => h l (hp.duty l hl) (hp.legal l hl), by rw [hn]; exact hp.once⟩
end Go.Proofs.YtckgapeednokjaaGreat
namespace Go.Proofs.YtckgapeednokjaaGreat

/-! ### All later -/
def laterR (c : Int) (r : Rel) : Rel := ⟨r.place, r.lo + c, r.hi + c⟩
def laterD (c : Int) (d : DDay) : DDay := { d with blocks := d.blocks.map fun l => l.map (laterR c) }
theorem later_lens (c : Int) (d : DDay) : (laterD c d).blocks.map List.length = d.blocks.map List.length := by
  simp only [laterD, List.map_map]
  exact List.map_congr_left fun l _ => by simp
theorem later_rel {c : Int} {d : DDay} {b i : Nat} (hb : b < d.blocks.length) (hi : i < (d.blocks[b]?.getD []).length) : relAt (laterD c d).blocks b i = laterR c (relAt d.blocks b i) := by
  unfold relAt laterD
  simp only [List.getElem?_map]
  rw [List.getElem?_eq_getElem hb] at hi ⊢
  simp only [Option.getD_some, Option.map_some, List.getElem?_map] at hi ⊢
  rw [List.getElem?_eq_getElem hi]
  rfl
theorem later_seg (c : Int) (d : DDay) : segs (laterD c d).blocks = segs d.blocks := segs_congr (later_lens c d)
theorem later_segN (c : Int) (d : DDay) : segN (laterD c d).blocks = segN d.blocks := segN_congr (later_lens c d)
theorem bef_of_lo {bl bl' : List (List Rel)} {p q : Pc} {c : Int} (h1 : loT bl' p.b p.fr = loT bl p.b p.fr + c) (h2 : loT bl' q.b q.fr = loT bl q.b q.fr + c) : bef bl' p q = bef bl p q := by
  unfold bef
  rw [h1, h2, Bool.eq_iff_iff]
  simp only [Bool.or_eq_true, Bool.and_eq_true, decide_eq_true_eq]
  omega
theorem later_pieces {d : DDay} {l : List Nat} (c : Int) (hr : l.Pairwise (· < ·)) (hl : ∀ n ∈ l, n < segN d.blocks) : piecesL (laterD c d) l = piecesL d l ∧ Alike d (laterD c d) (loT d.blocks) (hiT d.blocks) (loT (laterD c d).blocks) (hiT (laterD c d).blocks) id c (piecesL d l) := by
  have hok : ∀ p ∈ piecesL d l, p.b < d.blocks.length ∧ p.fr < p.to ∧ p.to < (d.blocks[p.b]?.getD []).length := fun p hp => by
    obtain ⟨k1, k2, k3, k4⟩ := (raw_ok l hr hl).ok p (pieces_mem.1 hp)
    exact ⟨k1, k2, k3⟩
  have hlo : ∀ p ∈ piecesL d l, loT (laterD c d).blocks p.b p.fr = loT d.blocks p.b p.fr + c := fun p hp => by
    obtain ⟨k1, k2, k3⟩ := hok p hp
    unfold loT
    rw [later_rel k1 (by omega)]
    rfl
  have hhi : ∀ p ∈ piecesL d l, hiT (laterD c d).blocks p.b p.to = hiT d.blocks p.b p.to + c := fun p hp => by
    obtain ⟨k1, k2, k3⟩ := hok p hp
    unfold hiT
    rw [later_rel k1 k3]
    rfl
  have hr' := later_segN c d
  constructor
  · refine sorted_unique (bl := (laterD c d).blocks) ?_ (pieces_sorted hr (by rw [hr']; exact hl)) ?_
    · unfold piecesL
      rw [later_seg]
      exact (srtP_perm _ _).trans (srtP_perm _ _).symm
    · refine List.Pairwise.imp_of_mem ?_ (pieces_sorted hr hl)
      intro p q hp hq h
      rw [bef_of_lo (hlo p hp) (hlo q hq)]
      exact h
  · refine ⟨rfl, fun p hp => hlo p hp, fun p hp => hhi p hp, fun p hp q hq => ?_⟩
    obtain ⟨k1, k2, k3⟩ := hok p hp
    obtain ⟨m1, m2, m3⟩ := hok q hq
    unfold gapP
    simp only [id]
    rw [later_rel k1 k3, later_rel m1 (by omega)]
    rfl
theorem later_legal {d : DDay} {l : List Nat} (c : Int) (hr : l.Pairwise (· < ·)) (hl : ∀ n ∈ l, n < segN d.blocks) : legalL (laterD c d) l = legalL d l ∧ payL (laterD c d) l = payL d l := by
  obtain ⟨e, ha⟩ := later_pieces c hr hl
  by_cases h0 : piecesL d l = []
  · unfold legalL payL
    rw [e, h0]
    exact ⟨rfl, rfl⟩
  · have h1 := alike_obeys ha h0
    have h2 := alike_spread ha h0
    rw [List.map_id] at h1 h2
    unfold legalL payL
    rw [e, h1, h2]
    exact ⟨rfl, rfl⟩
theorem later_best (c : Int) (d : DDay) : bestV (laterD c d) = bestV d ∧ bestP (laterD c d) = bestP d := by
  have e1 : legalX (laterD c d) = legalX d := by
    funext x
    unfold legalX
    rw [later_segN]
    exact (later_legal c (bitsL_asc _ _) fun i hi => (mem_bitsL.1 hi).1).1
  have e2 : payX (laterD c d) = payX d := by
    funext x
    unfold payX
    rw [later_segN]
    exact (later_legal c (bitsL_asc _ _) fun i hi => (mem_bitsL.1 hi).1).2
  unfold bestP bestV bestD
  rw [e1, e2, later_segN]
  exact ⟨rfl, rfl⟩

/-! ### Easier days -/
structure EasierDay (d d' : DDay) : Prop where
  lens : d'.blocks.map List.length = d.blocks.map List.length
  pieces : d.law.pieces ≤ d'.law.pieces
  piece : d.law.piece ≤ d'.law.piece
  drive : d.law.drive ≤ d'.law.drive
  spread : d.law.spread ≤ d'.law.spread
  brk : d'.law.brk ≤ d.law.brk
  on : d'.law.on ≤ d.law.on
  off : d'.law.off ≤ d.law.off
  least : d'.law.least ≤ d.law.least
  lo : ∀ b i, loT d.blocks b i ≤ loT d'.blocks b i
  hi : ∀ b i, hiT d'.blocks b i ≤ hiT d.blocks b i
  place : ∀ b i, (relAt d'.blocks b i).place = (relAt d.blocks b i).place
  walk : ∀ a b, walkAt d'.walk a b ≤ walkAt d.walk a b
theorem easier_legal {d d' : DDay} (h : DayOk d) (h' : DayOk d') (he : EasierDay d d') {l : List Nat} (hd : IsDuty d l) (hl : legalL d l = true) : legalL d' l = true ∧ payL d' l ≤ payL d l := by
  have hn : segN d'.blocks = segN d.blocks := segN_congr he.lens
  have hs : segs d'.blocks = segs d.blocks := segs_congr he.lens
  have hl0 := hl
  unfold legalL at hl0
  rw [obeys_iff] at hl0
  have hbrk := h.law.brk
  have hpw := rests_pair (by omega) (fun a b => (walk_any h a b).1) _ (dur_pos h hd) (by simpa using hl0.2.2.2.1)
  have hp : piecesL d' l = piecesL d l := by
    refine sorted_unique (bl := d'.blocks) ?_ (pieces_sorted hd.rise (by rw [hn]; exact hd.lt)) ?_
    · unfold piecesL
      rw [hs]
      exact (srtP_perm _ _).trans (srtP_perm _ _).symm
    · refine List.Pairwise.imp_of_mem ?_ hpw
      intro p q hp hq hlt
      obtain ⟨k1, k2, k3, k4⟩ := (raw_ok l hd.rise hd.lt).ok p (pieces_mem.1 hp)
      have a := rel_any h' p.b p.fr
      have b := he.hi p.b p.fr
      have c := he.lo q.b q.fr
      have e := (rise_le h (b := p.b) (i := p.fr) (j := p.to) (by omega) k3).2
      simp only [bef, Bool.or_eq_true, Bool.and_eq_true, decide_eq_true_eq]
      omega
  have hE : Easier d d' (loT d.blocks) (hiT d.blocks) (loT d'.blocks) (hiT d'.blocks) id (piecesL d l) :=
    ⟨he.pieces, he.piece, he.drive, he.spread, he.brk, he.on, he.off, fun p _ => he.lo _ _, fun p _ => he.hi _ _, fun p _ q _ => by
      unfold gapP
      simp only [id]
      rw [he.place, he.place]
      exact he.walk _ _⟩
  have h1 := easier_obeys hE (pieces_ne hd) hl
  have h2 := easier_spread hE (pieces_ne hd)
  have h3 := he.least
  rw [List.map_id] at h1 h2
  unfold legalL payL
  rw [hp]
  exact ⟨h1, by omega⟩
/-- How many duties a best plan has; 1000: there is none. -/
def bestN (d : DDay) : Int := if (bestV d).can then ((bestP d).length : Int) else 1000
theorem best_few {d : DDay} (h : DayOk d) (hc : (bestV d).can = true) : (bestP d).length ≤ segN d.blocks := by
  have hn : segN d.blocks ≤ 16 := by have := h.segs; omega
  have hall := (best_iff h).1 hc
  have hp : IsPlan d ((List.range (segN d.blocks)).map fun s => [s]) := by
    refine ⟨fun l hl => ?_, fun l hl => ?_, fun s hs => ?_⟩
    · obtain ⟨s, hs, rfl⟩ := List.mem_map.1 hl
      exact ⟨by simp, by simpa using List.mem_range.1 hs, by simp⟩
    · obtain ⟨s, hs, rfl⟩ := List.mem_map.1 hl
      exact hall s (List.mem_range.1 hs)
    · rw [List.countP_map]
      have e : ((fun l : List Nat => decide (s ∈ l)) ∘ fun s => [s]) = fun x => x == s := by
        funext x
        simp only [Function.comp_apply, List.mem_singleton]
        rw [Bool.eq_iff_iff]
        simp only [decide_eq_true_eq, beq_iff_eq]
        exact eq_comm
      rw [e]
      have h1 : List.count s (List.range (segN d.blocks)) ≤ 1 := List.nodup_iff_count.1 List.nodup_range s
      have h2 : 0 < List.count s (List.range (segN d.blocks)) := List.count_pos_iff.2 (List.mem_range.2 hs)
      unfold List.count at h1 h2
      omega
  have h1 := best_least hn hc hp
  have h2 := best_len hn hc
  unfold lexLe at h1
  simp only [List.length_map, List.length_range] at h1
  omega
/-- A day in which each plan of another one is one, of as many duties, has no more. -/
theorem bestN_le {d d' : DDay} (h : DayOk d) (h' : DayOk d') (hp : ∀ plan, IsPlan d plan → ∃ plan', IsPlan d' plan' ∧ plan'.length = plan.length) : bestN d' ≤ bestN d := by
  have hn : segN d.blocks ≤ 16 := by have := h.segs; omega
  have hn' : segN d'.blocks ≤ 16 := by have := h'.segs; omega
  have hs' := h'.segs
  unfold bestN
  cases hc : (bestV d).can with
  | true =>
    obtain ⟨plan', hp', hlen⟩ := hp _ (best_plan hn hc)
    have hc' := best_exists hn' hp'
    have h1 := best_least hn' hc' hp'
    have h2 := best_len hn' hc'
    rw [hc']
    simp only [if_true]
    unfold lexLe at h1
    omega
  | false =>
    cases hc' : (bestV d').can with
    | true =>
      have := best_few h' hc'
      simp
      omega
    | false => simp
theorem easier_bestN {d d' : DDay} (h : DayOk d) (h' : DayOk d') (he : EasierDay d d') : bestN d' ≤ bestN d :=
  bestN_le h h' fun plan hp => ⟨plan, easier_plan (segN_congr he.lens) (fun l hd hl => (easier_legal h h' he hd hl).1) hp, rfl⟩
end Go.Proofs.YtckgapeednokjaaGreat
namespace Go.Proofs.YtckgapeednokjaaGreat

/-! ### One relief more -/
def cutBl (l : List Rel) (i : Nat) (r : Rel) : List Rel := l.take (i + 1) ++ [r] ++ l.drop (i + 1)
def cutD (d : DDay) (b i : Nat) (r : Rel) : DDay := { d with blocks := d.blocks.set b (cutBl (d.blocks[b]?.getD []) i r) }
def cutL (s : Nat) (l : List Nat) : List Nat := l.flatMap fun k => if k < s then [k] else if k = s then [s, s + 1] else [k + 1]
theorem mem_cutL {s n : Nat} {l : List Nat} : n ∈ cutL s l ↔ (n ≤ s ∧ n ∈ l) ∨ (s < n ∧ n - 1 ∈ l) := by
  unfold cutL
  rw [List.mem_flatMap]
  constructor
  · rintro ⟨k, hk, h⟩
    split at h
    · simp at h; subst h; left; exact ⟨by omega, hk⟩
    · split at h
      · subst k
        simp at h
        rcases h with rfl | rfl
        · left; exact ⟨Nat.le_refl _, hk⟩
        · right; exact ⟨by omega, by simpa using hk⟩
      · simp at h; subst h; right; exact ⟨by omega, by simpa using hk⟩
  · rintro (⟨h1, h2⟩ | ⟨h1, h2⟩)
    · refine ⟨n, h2, ?_⟩
      by_cases h : n < s
      · rw [if_pos h]; simp
      · rw [if_neg h, if_pos (by omega)]
        have : n = s := by omega
        simp [this]
    · refine ⟨n - 1, h2, ?_⟩
      rw [if_neg (by omega)]
      by_cases h : n - 1 = s
      · rw [if_pos h]; simp; right; omega
      · rw [if_neg h]; simp; omega
theorem cutL_asc {s : Nat} {l : List Nat} (h : l.Pairwise (· < ·)) : (cutL s l).Pairwise (· < ·) := by
  induction l with
  | nil => simp [cutL]
  | cons a t ih =>
    rw [List.pairwise_cons] at h
    have e : cutL s (a :: t) = (if a < s then [a] else if a = s then [s, s + 1] else [a + 1]) ++ cutL s t := by simp [cutL]
    rw [e, List.pairwise_append]
    refine ⟨?_, ih h.2, fun x hx y hy => ?_⟩
    · split
      · simp
      · split <;> simp
    · rcases mem_cutL.1 hy with ⟨h1, h2⟩ | ⟨h1, h2⟩
      · have := h.1 y h2
        split at hx
        · simp at hx; omega
        · split at hx <;> simp at hx <;> omega
      · have := h.1 _ h2
        split at hx
        · simp at hx; omega
        · split at hx
          · simp at hx; omega
          · simp at hx; omega

theorem bef_iff {bl : List (List Rel)} {p q : Pc} : bef bl p q = true ↔ loT bl p.b p.fr < loT bl q.b q.fr ∨ loT bl p.b p.fr = loT bl q.b q.fr ∧ p.first < q.first := by
  simp only [bef, Bool.or_eq_true, Bool.and_eq_true, decide_eq_true_eq]
section
variable {d : DDay} {b i : Nat} {r : Rel} (hb : b < d.blocks.length) (hi : i + 1 < (d.blocks[b]?.getD []).length)
include hb hi
omit hi in
theorem cut_block (c : Nat) : (cutD d b i r).blocks[c]? = if c = b then some (cutBl (d.blocks[b]?.getD []) i r) else d.blocks[c]? := by
  unfold cutD
  simp only [List.getElem?_set]
  by_cases e : b = c
  · subst e; simp [hb]
  · rw [if_neg e, if_neg (fun h => e h.symm)]
theorem cut_len (c : Nat) : ((cutD d b i r).blocks[c]?.getD []).length = (d.blocks[c]?.getD []).length + if c = b then 1 else 0 := by
  rw [cut_block hb]
  by_cases e : c = b
  · subst e
    rw [if_pos rfl, if_pos rfl, Option.getD_some]
    unfold cutBl
    simp
    omega
  · rw [if_neg e, if_neg e]
    omega
theorem cutBl_get (l : List Rel) (hl : i + 1 < l.length) (j : Nat) : (cutBl l i r)[j]? = if j ≤ i then l[j]? else if j = i + 1 then some r else l[j - 1]? := by
  unfold cutBl
  rw [List.append_assoc, List.getElem?_append]
  have e : (l.take (i + 1)).length = i + 1 := by simp; omega
  rw [e]
  by_cases h : j ≤ i
  · rw [if_pos (by omega), if_pos h, List.getElem?_take, if_pos (by omega)]
  · rw [if_neg (by omega), if_neg h]
    by_cases h2 : j = i + 1
    · subst h2
      rw [if_pos rfl]
      simp
    · rw [if_neg h2, List.getElem?_append, if_neg (by simp; omega), List.getElem?_drop]
      congr 1
      simp
      omega
def shR (b i c j : Nat) : Nat := if c = b ∧ i < j then j + 1 else j
def unR (b i c j : Nat) : Nat := if c = b ∧ i < j then j - 1 else j
theorem cut_rel (c j : Nat) : relAt (cutD d b i r).blocks c (shR b i c j) = relAt d.blocks c j := by
  unfold relAt
  rw [cut_block hb]
  by_cases e : c = b
  · subst e
    rw [if_pos rfl, Option.getD_some, cutBl_get hb hi _ hi]
    by_cases h : i < j
    · have es : shR c i c j = j + 1 := if_pos ⟨rfl, h⟩
      rw [es, if_neg (by omega), if_neg (by omega), Nat.add_sub_cancel]
    · have es : shR c i c j = j := if_neg (by omega)
      rw [es, if_pos (by omega)]
  · have es : shR b i c j = j := if_neg (by omega)
    rw [if_neg e, es]
omit hb hi in
theorem offB_succ' {bl : List (List Rel)} {c : Nat} (h : c < bl.length) : offB bl (c + 1) = offB bl c + ((bl[c]?.getD []).length - 1) := by
  unfold offB
  rw [List.take_succ_eq_append_getElem h, List.getElem?_eq_getElem h, Option.getD_some]
  have : ∀ (a : List (List Rel)) (l : List Rel), segN (a ++ [l]) = segN a + (l.length - 1) := by
    intro a l
    induction a with
    | nil => simp [segN]
    | cons x a ih => simp only [List.cons_append, segN, ih]; omega
  exact this _ _
omit hb hi in
theorem offB_all (bl : List (List Rel)) : offB bl bl.length = segN bl := by
  unfold offB
  rw [List.take_length]
theorem cut_off : ∀ (c : Nat), c ≤ d.blocks.length → offB (cutD d b i r).blocks c = offB d.blocks c + if b < c then 1 else 0
  | 0, _ => by simp [offB, segN]
  | c + 1, hc => by
    have ih := cut_off c (by omega)
    have hlen : (cutD d b i r).blocks.length = d.blocks.length := by simp [cutD]
    rw [offB_succ' (by rw [hlen]; omega), offB_succ' (by omega), ih, cut_len hb hi]
    by_cases e : c = b
    · subst e
      rw [if_neg (by omega), if_pos rfl, if_pos (by omega)]
      omega
    · rw [if_neg e]
      by_cases h : b < c
      · rw [if_pos h, if_pos (by omega)]; omega
      · rw [if_neg h, if_neg (by omega)]; omega
theorem cut_segN : segN (cutD d b i r).blocks = segN d.blocks + 1 := by
  have hlen : (cutD d b i r).blocks.length = d.blocks.length := by simp [cutD]
  have := cut_off hb hi (r := r) d.blocks.length (Nat.le_refl _)
  rw [if_pos hb, offB_all, ← hlen, offB_all] at this
  exact this
omit hb hi in
theorem offB_mono {bl : List (List Rel)} {c e : Nat} (h : c ≤ e) (he : e ≤ bl.length) : offB bl c ≤ offB bl e := by
  induction e with
  | zero => have : c = 0 := by omega
            subst this; omega
  | succ e ih =>
    by_cases h2 : c = e + 1
    · subst h2; omega
    · have := ih (by omega) (by omega)
      rw [offB_succ' (by omega)]
      omega
omit hb hi in
theorem off_lt {bl : List (List Rel)} {c e j : Nat} (h : c < e) (he : e ≤ bl.length) (hj : j + 1 < (bl[c]?.getD []).length) : offB bl c + j < offB bl e := by
  have := offB_mono (bl := bl) (c := c + 1) (e := e) (by omega) he
  rw [offB_succ' (by omega)] at this
  omega
theorem cut_in {l : List Nat} {c j : Nat} (hc : c < d.blocks.length) (hj : j + 1 < ((cutD d b i r).blocks[c]?.getD []).length) : inL (cutD d b i r).blocks (cutL (offB d.blocks b + i) l) c j ↔ inL d.blocks l c (unR b i c j) := by
  unfold inL
  rw [mem_cutL, cut_off hb hi c (by omega)]
  rw [cut_len hb hi] at hj
  unfold unR
  rcases Nat.lt_trichotomy c b with e | e | e
  · have := off_lt (bl := d.blocks) (c := c) (e := b) (j := j) e (by omega) (by rw [if_neg (by omega)] at hj; omega)
    rw [if_neg (by omega), if_neg (by omega)]
    constructor
    · rintro (⟨h1, h2⟩ | ⟨h1, h2⟩)
      · exact h2
      · omega
    · intro h; left; exact ⟨by omega, h⟩
  · subst e
    rw [if_neg (by omega)]
    by_cases h : i < j
    · rw [if_pos ⟨rfl, h⟩]
      constructor
      · rintro (⟨h1, h2⟩ | ⟨h1, h2⟩)
        · omega
        · rw [show offB d.blocks c + (j - 1) = offB d.blocks c + 0 + j - 1 by omega]; simpa using h2
      · intro h3; right; exact ⟨by omega, by rw [show offB d.blocks c + 0 + j - 1 = offB d.blocks c + (j - 1) by omega]; exact h3⟩
    · rw [if_neg (by omega)]
      constructor
      · rintro (⟨h1, h2⟩ | ⟨h1, h2⟩)
        · exact h2
        · omega
      · intro h3; left; exact ⟨by omega, h3⟩
  · have := off_lt (bl := d.blocks) (c := b) (e := c) (j := i) e (by omega) hi
    rw [if_pos e, if_neg (by omega)]
    constructor
    · rintro (⟨h1, h2⟩ | ⟨h1, h2⟩)
      · omega
      · rw [show offB d.blocks c + j = offB d.blocks c + 1 + j - 1 by omega]; exact h2
    · intro h3; right; exact ⟨by omega, by rw [show offB d.blocks c + 1 + j - 1 = offB d.blocks c + j by omega]; exact h3⟩
def cutP (b i s : Nat) (p : Pc) : Pc := ⟨p.b, shR b i p.b p.fr, shR b i p.b p.to, if p.first ≤ s then p.first else p.first + 1⟩
def uncP (b i s : Nat) (p : Pc) : Pc := ⟨p.b, unR b i p.b p.fr, unR b i p.b p.to, if p.first ≤ s then p.first else p.first - 1⟩
theorem cut_first {c j : Nat} (hc : c < d.blocks.length) (hj : j + 1 < (d.blocks[c]?.getD []).length) :
    (if offB d.blocks c + j ≤ offB d.blocks b + i then offB d.blocks c + j else offB d.blocks c + j + 1) = offB (cutD d b i r).blocks c + shR b i c j := by
  rw [cut_off hb hi c (by omega)]
  rcases Nat.lt_trichotomy c b with e | e | e
  · have := off_lt (bl := d.blocks) (c := c) (e := b) (j := j) e (by omega) hj
    have es : shR b i c j = j := if_neg (by omega)
    rw [es, if_pos (by omega), if_neg (by omega)]
    omega
  · subst e
    rw [if_neg (by omega : ¬ c < c)]
    by_cases h : i < j
    · have es : shR c i c j = j + 1 := if_pos ⟨rfl, h⟩
      rw [es, if_neg (by omega)]; omega
    · have es : shR c i c j = j := if_neg (by omega)
      rw [es, if_pos (by omega)]; omega
  · have := off_lt (bl := d.blocks) (c := b) (e := c) (j := i) e (by omega) hi
    have es : shR b i c j = j := if_neg (by omega)
    rw [es, if_neg (by omega), if_pos e]
    omega
theorem sh_un {c j : Nat} (h : c = b → j ≠ i + 1) : shR b i c (unR b i c j) = j := by
  by_cases e : c = b ∧ i < j
  · have h1 := h e.1
    have e1 : unR b i c j = j - 1 := if_pos e
    have e2 : shR b i c (j - 1) = j - 1 + 1 := if_pos ⟨e.1, by omega⟩
    rw [e1, e2]; omega
  · have e1 : unR b i c j = j := if_neg e
    have e2 : shR b i c j = j := if_neg e
    rw [e1, e2]
theorem un_sh (c j : Nat) : unR b i c (shR b i c j) = j := by
  by_cases e : c = b ∧ i < j
  · have e1 : shR b i c j = j + 1 := if_pos e
    have e2 : unR b i c (j + 1) = j + 1 - 1 := if_pos ⟨e.1, by omega⟩
    rw [e1, e2]; omega
  · have e1 : unR b i c j = j := if_neg e
    have e2 : shR b i c j = j := if_neg e
    rw [e2, e1]
theorem cut_isPc {l : List Nat} {p : Pc} (h : IsPc d.blocks l p) : IsPc (cutD d b i r).blocks (cutL (offB d.blocks b + i) l) (cutP b i (offB d.blocks b + i) p) ∧ uncP b i (offB d.blocks b + i) (cutP b i (offB d.blocks b + i) p) = p := by
  have hlen : (cutD d b i r).blocks.length = d.blocks.length := by simp [cutD]
  have k1 := h.b
  have k2 := h.lt
  have k3 := h.to
  have hl := cut_len hb hi (r := r) p.b
  have hf := h.first
  have hto : shR b i p.b p.to < ((cutD d b i r).blocks[p.b]?.getD []).length := by
    rw [hl]
    unfold shR
    by_cases e : p.b = b
    · rw [if_pos e]; split <;> omega
    · rw [if_neg e, if_neg (by omega)]; omega
  have hlt : shR b i p.b p.fr < shR b i p.b p.to := by unfold shR; split <;> split <;> omega
  refine ⟨⟨by rw [hlen]; exact k1, hlt, hto, ?_, fun j h1 h2 => ?_, fun j h1 => ?_, fun h1 => ?_⟩, ?_⟩
  · show (if p.first ≤ _ then p.first else p.first + 1) = _
    rw [hf]
    exact cut_first hb hi k1 (by omega)
  · simp only [cutP] at h1 h2 ⊢
    rw [cut_in hb hi k1 (by omega)]
    refine h.all _ ?_ ?_
    · unfold shR at h1; unfold unR; split at h1 <;> split <;> omega
    · unfold shR at h2; unfold unR; split at h2 <;> split <;> omega
  · simp only [cutP] at h1 ⊢
    rw [cut_in hb hi k1 (by omega)]
    refine h.left _ ?_
    unfold shR at h1; unfold unR; split at h1 <;> split <;> omega
  · simp only [cutP] at h1 ⊢
    rw [cut_in hb hi k1 (by omega), un_sh hb hi]
    refine h.right ?_
    rw [hl] at h1
    unfold shR at h1
    by_cases e : p.b = b
    · rw [if_pos e] at h1
      split at h1
      · omega
      · rw [e]; omega
    · rw [if_neg e, if_neg (by omega)] at h1; omega
  · obtain ⟨pb, pf, pt, p1⟩ := p
    simp only [uncP, cutP, un_sh hb hi]
    congr 1
    split <;> (first | omega | (split <;> omega))
theorem unc_isPc {l : List Nat} {p : Pc} (h : IsPc (cutD d b i r).blocks (cutL (offB d.blocks b + i) l) p) : IsPc d.blocks l (uncP b i (offB d.blocks b + i) p) ∧ cutP b i (offB d.blocks b + i) (uncP b i (offB d.blocks b + i) p) = p := by
  have hlen : (cutD d b i r).blocks.length = d.blocks.length := by simp [cutD]
  have k1 := h.b
  rw [hlen] at k1
  have k2 := h.lt
  have k3 := h.to
  have hl := cut_len hb hi (r := r) p.b
  have hlb := cut_len hb hi (r := r) b
  rw [if_pos rfl] at hlb
  have hf := h.first
  have n1 : p.b = b → p.fr ≠ i + 1 := fun e e2 => by
    have h1 := h.left i e2.symm
    have h2 := h.all (i + 1) (by omega) (by omega)
    rw [cut_in hb hi k1 (by omega)] at h1 h2
    unfold unR at h1 h2
    rw [if_neg (by omega)] at h1
    rw [if_pos ⟨e, by omega⟩] at h2
    exact h1 h2
  have n2 : p.b = b → p.to ≠ i + 1 := fun e e2 => by
    have h1 := h.right (by rw [e, hlb]; omega)
    have h2 := h.all i (by have := n1 e; omega) (by omega)
    rw [cut_in hb hi k1 (by rw [e, hlb]; omega)] at h1 h2
    unfold unR at h1 h2
    rw [if_pos ⟨e, by omega⟩, e2] at h1
    rw [if_neg (by omega)] at h2
    exact h1 h2
  have hlt : unR b i p.b p.fr < unR b i p.b p.to := by
    unfold unR
    by_cases e : p.b = b
    · have := n1 e; have := n2 e; split <;> split <;> omega
    · rw [if_neg (by omega), if_neg (by omega)]; exact k2
  have hto : unR b i p.b p.to < (d.blocks[p.b]?.getD []).length := by
    rw [hl] at k3
    unfold unR
    by_cases e : p.b = b
    · rw [if_pos e] at k3
      split
      · omega
      · rw [e]; omega
    · rw [if_neg e] at k3
      rw [if_neg (by omega)]; omega
  have hff : unR b i p.b p.fr + 1 < (d.blocks[p.b]?.getD []).length := by omega
  have e1 := cut_first hb hi (r := r) k1 hff
  rw [sh_un hb hi n1, ← hf] at e1
  have efirst : (if p.first ≤ offB d.blocks b + i then p.first else p.first - 1) = offB d.blocks p.b + unR b i p.b p.fr := by
    split at e1 <;> split <;> omega
  refine ⟨⟨k1, hlt, hto, efirst, fun j h1 h2 => ?_, fun j h1 => ?_, fun h1 => ?_⟩, ?_⟩
  · simp only [uncP] at h1 h2 ⊢
    have h3 := h.all (shR b i p.b j) (by unfold unR at h1; unfold shR; split at h1 <;> split <;> omega) (by unfold unR at h2; unfold shR; split at h2 <;> split <;> omega)
    rw [cut_in hb hi k1 (by have : shR b i p.b j < p.to := by unfold unR at h2; unfold shR; split at h2 <;> split <;> omega
                            omega), un_sh hb hi] at h3
    exact h3
  · simp only [uncP] at h1 ⊢
    intro h2
    by_cases hc : p.b = b ∧ p.fr = i + 2
    · have h3 := h.left (i + 1) (by omega)
      rw [cut_in hb hi k1 (by omega)] at h3
      unfold unR at h3 h1
      rw [if_pos ⟨hc.1, by omega⟩] at h3 h1
      exact h3 (by rw [show i + 1 - 1 = j by omega]; exact h2)
    · have h3 := h.left (shR b i p.b j) (by
        unfold unR at h1; unfold shR
        by_cases e : p.b = b
        · have := n1 e
          split at h1 <;> split <;> omega
        · rw [if_neg (by omega)] at h1 ⊢; exact h1)
      rw [cut_in hb hi k1 (by
        have : shR b i p.b j + 1 ≤ p.fr := by
          unfold unR at h1; unfold shR
          split at h1 <;> split <;> omega
        omega), un_sh hb hi] at h3
      exact h3 h2
  · simp only [uncP] at h1 ⊢
    intro h2
    have hlp : p.to + 1 < ((cutD d b i r).blocks[p.b]?.getD []).length := by
      rw [hl]
      unfold unR at h1
      by_cases e : p.b = b
      · have := n2 e
        rw [if_pos e]; split at h1 <;> omega
      · rw [if_neg e]; rw [if_neg (by omega)] at h1; omega
    have h3 := h.right hlp
    rw [cut_in hb hi k1 hlp] at h3
    exact h3 h2
  · obtain ⟨pb, pf, pt, p1⟩ := p
    simp only [uncP, cutP] at *
    rw [sh_un hb hi n1, sh_un hb hi n2, efirst, e1]
theorem cut_duty {l : List Nat} (hd : IsDuty d l) : IsDuty (cutD d b i r) (cutL (offB d.blocks b + i) l) := by
  have hs : offB d.blocks b + i < segN d.blocks := by
    have := off_lt (bl := d.blocks) (c := b) (e := d.blocks.length) (j := i) hb (Nat.le_refl _) hi
    rw [offB_all] at this
    exact this
  refine ⟨cutL_asc hd.rise, fun n hn => ?_, fun e => ?_⟩
  · rw [cut_segN hb hi]
    rcases mem_cutL.1 hn with ⟨h1, h2⟩ | ⟨h1, h2⟩
    · omega
    · have := hd.lt _ h2; omega
  · cases l with
    | nil => exact hd.some rfl
    | cons a t =>
      have : (if a ≤ offB d.blocks b + i then a else a + 1) ∈ cutL (offB d.blocks b + i) (a :: t) := by
        rw [mem_cutL]
        by_cases h : a ≤ offB d.blocks b + i
        · rw [if_pos h]; left; exact ⟨h, by simp⟩
        · rw [if_neg h]; right; exact ⟨by omega, by simp⟩
      rw [e] at this
      simp at this
/-- With both halves the same duties are legal. -/
theorem cut_legal {l : List Nat} (hd : IsDuty d l) : legalL (cutD d b i r) (cutL (offB d.blocks b + i) l) = legalL d l := by
  have hd' := cut_duty hb hi (r := r) hd
  have hperm := raw_moved (f := cutP b i (offB d.blocks b + i)) (g := uncP b i (offB d.blocks b + i)) hd hd' (fun p hp => cut_isPc hb hi hp) (fun p hp => unc_isPc hb hi hp)
  have hlo : ∀ c j, loT (cutD d b i r).blocks c (shR b i c j) = loT d.blocks c j := fun c j => by unfold loT; rw [cut_rel hb hi]
  have hhi : ∀ c j, hiT (cutD d b i r).blocks c (shR b i c j) = hiT d.blocks c j := fun c j => by unfold hiT; rw [cut_rel hb hi]
  have e := pieces_moved hd hd' hperm (by
    rw [List.pairwise_map]
    refine (pieces_sorted hd.rise hd.lt).imp fun {p q} h => ?_
    rw [bef_iff] at h ⊢
    simp only [cutP]
    rw [hlo, hlo]
    rcases h with h | h
    · exact .inl h
    · refine .inr ⟨h.1, ?_⟩
      have := h.2
      split <;> split <;> omega)
  unfold legalL
  rw [e]
  refine alike_obeys (c := 0) ⟨rfl, fun p _ => ?_, fun p _ => ?_, fun p _ q _ => ?_⟩ (pieces_ne hd)
  · simp only [cutP]; rw [hlo]; omega
  · simp only [cutP]; rw [hhi]; omega
  · simp only [gapP, cutP]
    rw [cut_rel hb hi, cut_rel hb hi]
    rfl
theorem cut_plan {plan : List (List Nat)} (hp : IsPlan d plan) : IsPlan (cutD d b i r) (plan.map (cutL (offB d.blocks b + i))) := by
  have hs : offB d.blocks b + i < segN d.blocks := by
    have := off_lt (bl := d.blocks) (c := b) (e := d.blocks.length) (j := i) hb (Nat.le_refl _) hi
    rw [offB_all] at this
    exact this
  refine ⟨fun l hl => ?_, fun l hl => ?_, fun n hn => ?_⟩
  · obtain ⟨m, hm, rfl⟩ := List.mem_map.1 hl
    exact cut_duty hb hi (hp.duty m hm)
  · obtain ⟨m, hm, rfl⟩ := List.mem_map.1 hl
    rw [cut_legal hb hi (hp.duty m hm)]
    exact hp.legal m hm
  · rw [cut_segN hb hi] at hn
    rw [List.countP_map]
    rw [← hp.once (if n ≤ offB d.blocks b + i then n else n - 1) (by split <;> omega)]
    refine List.countP_congr fun l hl => ?_
    simp only [Function.comp_apply, decide_eq_true_eq]
    rw [mem_cutL]
    split <;> constructor
    · rintro (⟨h1, h2⟩ | ⟨h1, h2⟩)
      · exact h2
      · omega
    · intro h; left; exact ⟨by omega, h⟩
    · rintro (⟨h1, h2⟩ | ⟨h1, h2⟩)
      · omega
      · exact h2
    · intro h; right; exact ⟨by omega, h⟩
end
theorem cut_bestN {d : DDay} {b i : Nat} {r : Rel} (hb : b < d.blocks.length) (hi : i + 1 < (d.blocks[b]?.getD []).length) (h : DayOk d) (h' : DayOk (cutD d b i r)) : bestN (cutD d b i r) ≤ bestN d :=
  bestN_le h h' fun plan hp => ⟨_, cut_plan hb hi hp, by simp⟩
end Go.Proofs.YtckgapeednokjaaGreat
namespace Go.Proofs.YtckgapeednokjaaGreat

/-! ### Blocks, turned -/
def rotD (t : Nat) (d : DDay) : DDay := { d with blocks := d.blocks.drop t ++ d.blocks.take t }
/-- The segments of l, numbered anew. -/
def rotL (n cut : Nat) (l : List Nat) : List Nat := (List.range n).filter fun s => l.contains ((s + cut) % n)
/-- Where a block goes. -/
def rotB (t len b : Nat) : Nat := if b < t then b + (len - t) else b - t
theorem segN_app : ∀ (a b : List (List Rel)), segN (a ++ b) = segN a + segN b
  | [], b => by simp [segN]
  | x :: a, b => by simp only [List.cons_append, segN, segN_app a b]; omega
theorem segN_parts (t : Nat) (bl : List (List Rel)) : segN (bl.take t) + segN (bl.drop t) = segN bl := by
  rw [← segN_app, List.take_append_drop]
theorem rot_segN (t : Nat) (d : DDay) : segN (rotD t d).blocks = segN d.blocks := by
  unfold rotD
  rw [segN_app]
  have := segN_parts t d.blocks
  omega
theorem rot_len (t : Nat) (d : DDay) : (rotD t d).blocks.length = d.blocks.length := by
  unfold rotD
  simp
  omega
theorem rotB_lt {t len b : Nat} (ht : t ≤ len) (hb : b < len) : rotB t len b < len := by unfold rotB; split <;> omega
theorem rotB_back {t len b : Nat} (ht : t ≤ len) (hb : b < len) : rotB (len - t) len (rotB t len b) = b := by
  unfold rotB
  by_cases h : b < t
  · rw [if_pos h, if_neg (by omega)]; omega
  · rw [if_neg h, if_pos (by omega)]; omega
theorem rotB_forth {t len b : Nat} (ht : t ≤ len) (hb : b < len) : rotB t len (rotB (len - t) len b) = b := by
  unfold rotB
  by_cases h : b < len - t
  · rw [if_pos h, if_neg (by omega)]; omega
  · rw [if_neg h, if_pos (by omega)]; omega
theorem mem_rotL {n cut s : Nat} {l : List Nat} : s ∈ rotL n cut l ↔ s < n ∧ (s + cut) % n ∈ l := by
  unfold rotL
  simp [List.mem_filter]
theorem rotL_asc (n cut : Nat) (l : List Nat) : (rotL n cut l).Pairwise (· < ·) := List.Pairwise.filter _ List.pairwise_lt_range
theorem mod_back {n cut a : Nat} (ha : a < n) (hc : cut ≤ n) : ((a + (n - cut)) % n + cut) % n = a := by
  rw [Nat.mod_add_mod, show a + (n - cut) + cut = a + n by omega, Nat.add_mod_right, Nat.mod_eq_of_lt ha]
theorem rotL_back {n cut : Nat} {l : List Nat} (hc : cut ≤ n) (hr : l.Pairwise (· < ·)) (hl : ∀ i ∈ l, i < n) : rotL n (n - cut) (rotL n cut l) = l := by
  refine asc_unique (rotL_asc _ _ _) hr fun i => ?_
  rw [mem_rotL, mem_rotL]
  constructor
  · rintro ⟨h1, h2, h3⟩
    rwa [mod_back h1 hc] at h3
  · intro h
    have h1 := hl i h
    exact ⟨h1, Nat.mod_lt _ (by omega), by rwa [mod_back h1 hc]⟩
section
variable {d : DDay} {t : Nat} (ht : t ≤ d.blocks.length)
include ht
theorem rot_get {b : Nat} (hb : b < d.blocks.length) : (rotD t d).blocks[rotB t d.blocks.length b]? = d.blocks[b]? := by
  unfold rotD rotB
  simp only
  by_cases h : b < t
  · rw [if_pos h, List.getElem?_append_right (by simp), List.length_drop, show b + (d.blocks.length - t) - (d.blocks.length - t) = b by omega, List.getElem?_take, if_pos h]
  · rw [if_neg h, List.getElem?_append_left (by simp; omega), List.getElem?_drop, show t + (b - t) = b by omega]
theorem rot_off1 {b : Nat} (h : b < t) : offB (rotD t d).blocks (b + (d.blocks.length - t)) = segN (d.blocks.drop t) + offB d.blocks b := by
  unfold offB rotD
  simp only
  have e : (d.blocks.drop t).length = d.blocks.length - t := List.length_drop
  rw [List.take_append, List.take_of_length_le (by rw [e]; omega), segN_app, e, show b + (d.blocks.length - t) - (d.blocks.length - t) = b by omega, List.take_take, Nat.min_eq_left (by omega)]
theorem rot_off2 {b : Nat} (h : t ≤ b) (hb : b < d.blocks.length) : offB (rotD t d).blocks (b - t) + segN (d.blocks.take t) = offB d.blocks b := by
  unfold offB rotD
  simp only
  have e : (d.blocks.drop t).length = d.blocks.length - t := List.length_drop
  have e2 : d.blocks.take b = d.blocks.take t ++ (d.blocks.drop t).take (b - t) := by
    conv => lhs; rw [show b = t + (b - t) by omega]
    rw [List.take_add]
  rw [e2, segN_app, List.take_append, e, show b - t - (d.blocks.length - t) = 0 by omega, List.take_zero, List.append_nil]
  omega
theorem rot_in {l : List Nat} {b i : Nat} (hb : b < d.blocks.length) (hi : i + 1 < (d.blocks[b]?.getD []).length) :
    inL (rotD t d).blocks (rotL (segN d.blocks) (segN (d.blocks.take t)) l) (rotB t d.blocks.length b) i ↔ inL d.blocks l b i := by
  unfold inL
  rw [mem_rotL]
  have hlt := off_lt (bl := d.blocks) (c := b) (e := d.blocks.length) (j := i) hb (Nat.le_refl _) hi
  rw [offB_all] at hlt
  have hp := segN_parts t d.blocks
  by_cases h : b < t
  · have h1 := rot_off1 ht h
    have h2 := off_lt (bl := d.blocks) (c := b) (e := t) (j := i) h ht hi
    have h3 : offB d.blocks t = segN (d.blocks.take t) := rfl
    have e : rotB t d.blocks.length b = b + (d.blocks.length - t) := if_pos h
    rw [e, h1, show segN (d.blocks.drop t) + offB d.blocks b + i + segN (d.blocks.take t) = (offB d.blocks b + i) + segN d.blocks by omega, Nat.add_mod_right, Nat.mod_eq_of_lt hlt]
    exact ⟨fun h => h.2, fun h => ⟨by omega, h⟩⟩
  · have h1 := rot_off2 ht (by omega : t ≤ b) hb
    have e : rotB t d.blocks.length b = b - t := if_neg h
    rw [e, show offB (rotD t d).blocks (b - t) + i + segN (d.blocks.take t) = offB d.blocks b + i by omega, Nat.mod_eq_of_lt hlt]
    exact ⟨fun h => h.2, fun h => ⟨by omega, h⟩⟩
omit ht in
theorem rot_rel' {b b' i : Nat} (h : (rotD t d).blocks[b']? = d.blocks[b]?) : relAt (rotD t d).blocks b' i = relAt d.blocks b i := by
  unfold relAt
  rw [h]
/-- A piece, moved. -/
def rotP (d : DDay) (t : Nat) (p : Pc) : Pc := ⟨rotB t d.blocks.length p.b, p.fr, p.to, offB (rotD t d).blocks (rotB t d.blocks.length p.b) + p.fr⟩
def unrotP (d : DDay) (t : Nat) (p : Pc) : Pc := ⟨rotB (d.blocks.length - t) d.blocks.length p.b, p.fr, p.to, offB d.blocks (rotB (d.blocks.length - t) d.blocks.length p.b) + p.fr⟩
theorem rot_isPc {l : List Nat} {p : Pc} (h : IsPc d.blocks l p) : IsPc (rotD t d).blocks (rotL (segN d.blocks) (segN (d.blocks.take t)) l) (rotP d t p) ∧ unrotP d t (rotP d t p) = p := by
  have hg := rot_get ht h.b
  have hlt := h.lt
  have hto := h.to
  constructor
  · refine ⟨?_, h.lt, ?_, rfl, fun j h1 h2 => ?_, fun j hj => ?_, fun hj => ?_⟩
    · rw [rot_len]; exact rotB_lt ht h.b
    · show p.to < _
      unfold rotP
      simp only
      rw [hg]
      exact h.to
    · exact (rot_in ht h.b (by have : j < p.to := h2; omega)).2 (h.all j h1 h2)
    · have hj' : j + 1 = p.fr := hj
      exact fun hh => h.left j hj' ((rot_in ht h.b (by omega)).1 hh)
    · have hj' : p.to + 1 < (d.blocks[p.b]?.getD []).length := by
        have := hj
        unfold rotP at this
        simp only at this
        rwa [hg] at this
      exact fun hh => h.right hj' ((rot_in ht h.b hj').1 hh)
  · unfold unrotP rotP
    simp only
    rw [rotB_back ht h.b]
    have := h.first
    obtain ⟨pb, pf, pt, p1⟩ := p
    simp only at *
    rw [this]
theorem unrot_isPc {l : List Nat} {p : Pc} (h : IsPc (rotD t d).blocks (rotL (segN d.blocks) (segN (d.blocks.take t)) l) p) : IsPc d.blocks l (unrotP d t p) ∧ rotP d t (unrotP d t p) = p := by
  have hb := h.b
  rw [rot_len] at hb
  have hb' := rotB_lt (t := d.blocks.length - t) (by omega) hb
  have hf := rotB_forth ht hb
  have hg := rot_get ht hb'
  rw [hf] at hg
  have hlt := h.lt
  have hto := h.to
  rw [hg] at hto
  have hin : ∀ {j : Nat}, j + 1 < (d.blocks[rotB (d.blocks.length - t) d.blocks.length p.b]?.getD []).length → (inL (rotD t d).blocks (rotL (segN d.blocks) (segN (d.blocks.take t)) l) p.b j ↔ inL d.blocks l (rotB (d.blocks.length - t) d.blocks.length p.b) j) := fun {j} hj => by
    have := rot_in (l := l) ht hb' hj
    rwa [hf] at this
  constructor
  · refine ⟨hb', h.lt, hto, rfl, fun j h1 h2 => ?_, fun j hj => ?_, fun hj => ?_⟩
    · exact (hin (by have : j < p.to := h2; omega)).1 (h.all j h1 h2)
    · have hj' : j + 1 = p.fr := hj
      exact fun hh => h.left j hj' ((hin (by omega)).2 hh)
    · have hj' : p.to + 1 < (d.blocks[rotB (d.blocks.length - t) d.blocks.length p.b]?.getD []).length := hj
      exact fun hh => h.right (by rw [hg]; exact hj') ((hin hj').2 hh)
  · unfold unrotP rotP
    simp only
    rw [hf]
    have := h.first
    obtain ⟨pb, pf, pt, p1⟩ := p
    simp only at *
    rw [this]
theorem rot_duty {l : List Nat} (hd : IsDuty d l) : IsDuty (rotD t d) (rotL (segN d.blocks) (segN (d.blocks.take t)) l) := by
  refine ⟨rotL_asc _ _ _, fun i hi => by rw [rot_segN]; exact (mem_rotL.1 hi).1, fun e => ?_⟩
  cases hl : l with
  | nil => exact hd.some hl
  | cons a u =>
    have ha := hd.lt a (by rw [hl]; simp)
    have hp := segN_parts t d.blocks
    have : (a + (segN d.blocks - segN (d.blocks.take t))) % segN d.blocks ∈ rotL (segN d.blocks) (segN (d.blocks.take t)) l :=
      mem_rotL.2 ⟨Nat.mod_lt _ (by omega), by rw [mod_back ha (by omega), hl]; simp⟩
    rw [e] at this
    simp at this
theorem rot_ok (h : DayOk d) : DayOk (rotD t d) := by
  have hb : ∀ {b : Nat} {l : List Rel}, (rotD t d).blocks[b]? = some l → ∃ b', d.blocks[b']? = some l := fun {b l} hl => by
    have hm : l ∈ (rotD t d).blocks := List.mem_of_getElem? hl
    have : l ∈ d.blocks := by
      unfold rotD at hm
      rcases List.mem_append.1 hm with h | h
      · exact List.mem_of_mem_drop h
      · exact List.mem_of_mem_take h
    exact List.getElem?_of_mem this
  refine ⟨by rw [rot_len]; exact h.blocks, h.places, by rw [rot_segN]; exact h.segs, h.law, h.row, fun b l hl => ?_, fun b l i r hl => ?_, fun b l i r s hl => ?_⟩
  · obtain ⟨b', e⟩ := hb hl; exact h.two b' l e
  · obtain ⟨b', e⟩ := hb hl; exact h.rel b' l i r e
  · obtain ⟨b', e⟩ := hb hl; exact h.rise b' l i r s e
theorem rot_legal1 (h : DayOk d) {l : List Nat} (hd : IsDuty d l) (hl : legalL d l = true) :
    legalL (rotD t d) (rotL (segN d.blocks) (segN (d.blocks.take t)) l) = true ∧ payL (rotD t d) (rotL (segN d.blocks) (segN (d.blocks.take t)) l) = payL d l := by
  have hd' := rot_duty ht hd
  have hl0 := hl
  unfold legalL at hl0
  rw [obeys_iff] at hl0
  have hbrk := h.law.brk
  have hpw := rests_pair (by omega) (fun a b => (walk_any h a b).1) _ (dur_pos h hd) (by simpa using hl0.2.2.2.1)
  have hperm := raw_moved (f := rotP d t) (g := unrotP d t) hd hd' (fun p hp => rot_isPc ht hp) (fun p hp => unrot_isPc ht hp)
  have hok : ∀ p ∈ piecesL d l, p.b < d.blocks.length ∧ p.fr < p.to ∧ p.to < (d.blocks[p.b]?.getD []).length := fun p hp => by
    obtain ⟨k1, k2, k3, k4⟩ := (raw_ok l hd.rise hd.lt).ok p (pieces_mem.1 hp)
    exact ⟨k1, k2, k3⟩
  have hrel : ∀ p ∈ piecesL d l, ∀ j, relAt (rotD t d).blocks (rotP d t p).b j = relAt d.blocks p.b j := fun p hp j => rot_rel' (rot_get ht (hok p hp).1)
  have e := pieces_moved hd hd' hperm (by
    rw [List.pairwise_map]
    refine List.Pairwise.imp_of_mem ?_ hpw
    intro p q hp hq hlt
    have a := rel_any h p.b p.fr
    have e1 := (rise_le h (b := p.b) (i := p.fr) (j := p.to) (by have := (hok p hp).2.1; omega) (hok p hp).2.2).2
    rw [bef_iff]
    left
    unfold loT
    rw [hrel p hp, hrel q hq]
    show (relAt d.blocks p.b p.fr).lo < (relAt d.blocks q.b q.fr).lo
    unfold loT hiT at *
    omega)
  have hA : Alike d (rotD t d) (loT d.blocks) (hiT d.blocks) (loT (rotD t d).blocks) (hiT (rotD t d).blocks) (rotP d t) 0 (piecesL d l) := by
    refine ⟨rfl, fun p hp => ?_, fun p hp => ?_, fun p hp q hq => ?_⟩
    · unfold loT; rw [hrel p hp]; show _ = _ + 0; rw [Int.add_zero]; rfl
    · unfold hiT; rw [hrel p hp]; show _ = _ + 0; rw [Int.add_zero]; rfl
    · unfold gapP; rw [hrel p hp, hrel q hq]; rfl
  have h1 := alike_obeys hA (pieces_ne hd)
  have h2 := alike_spread hA (pieces_ne hd)
  unfold legalL payL
  rw [e, h1, h2]
  exact ⟨hl, rfl⟩
theorem rot_back : rotD (d.blocks.length - t) (rotD t d) = d := by
  have e : (d.blocks.drop t).length = d.blocks.length - t := List.length_drop
  unfold rotD
  simp only
  rw [← e, List.drop_left, List.take_left, List.take_append_drop]
theorem rot_cut : segN ((rotD t d).blocks.take (d.blocks.length - t)) = segN d.blocks - segN (d.blocks.take t) := by
  have e : (d.blocks.drop t).length = d.blocks.length - t := List.length_drop
  have hp := segN_parts t d.blocks
  unfold rotD
  simp only
  rw [← e, List.take_left]
  omega
theorem rot_legal (h : DayOk d) {l : List Nat} (hd : IsDuty d l) : legalL (rotD t d) (rotL (segN d.blocks) (segN (d.blocks.take t)) l) = legalL d l := by
  rw [Bool.eq_iff_iff]
  constructor
  · intro hl
    have h1 := rot_legal1 (d := rotD t d) (t := d.blocks.length - t) (by rw [rot_len]; omega) (rot_ok ht h) (rot_duty ht hd) hl
    have hp := segN_parts t d.blocks
    rw [rot_back ht, rot_cut ht, rot_segN, rotL_back (by omega) hd.rise hd.lt] at h1
    exact h1.1
  · intro hl
    exact (rot_legal1 ht h hd hl).1
theorem rot_plan (h : DayOk d) {plan : List (List Nat)} (hp : IsPlan d plan) : IsPlan (rotD t d) (plan.map (rotL (segN d.blocks) (segN (d.blocks.take t)))) ∧
    sumI ((plan.map (rotL (segN d.blocks) (segN (d.blocks.take t)))).map (payL (rotD t d))) = sumI (plan.map (payL d)) := by
  constructor
  · refine ⟨fun l hl => ?_, fun l hl => ?_, fun n hn => ?_⟩
    · obtain ⟨m, hm, rfl⟩ := List.mem_map.1 hl
      exact rot_duty ht (hp.duty m hm)
    · obtain ⟨m, hm, rfl⟩ := List.mem_map.1 hl
      exact (rot_legal1 ht h (hp.duty m hm) (hp.legal m hm)).1
    · rw [rot_segN] at hn
      rw [List.countP_map, ← hp.once ((n + segN (d.blocks.take t)) % segN d.blocks) (Nat.mod_lt _ (by omega))]
      refine List.countP_congr fun l hl => ?_
      simp only [Function.comp_apply, decide_eq_true_eq]
      rw [mem_rotL]
      exact ⟨fun h => h.2, fun h => ⟨hn, h⟩⟩
  · rw [List.map_map]
    congr 1
    exact List.map_congr_left fun l hl => (rot_legal1 ht h (hp.duty l hl) (hp.legal l hl)).2
theorem unrot_plan (h : DayOk d) {plan : List (List Nat)} (hp : IsPlan (rotD t d) plan) : ∃ plan', IsPlan d plan' ∧ plan'.length = plan.length ∧ sumI (plan'.map (payL d)) = sumI (plan.map (payL (rotD t d))) := by
  have h1 := rot_plan (d := rotD t d) (t := d.blocks.length - t) (by rw [rot_len]; omega) (rot_ok ht h) hp
  rw [rot_back ht] at h1
  exact ⟨_, h1.1, by simp, h1.2⟩
end
theorem best_same {d d' : DDay} (hn : segN d.blocks ≤ 16) (hn' : segN d'.blocks ≤ 16)
    (h : ∀ plan, IsPlan d plan → ∃ plan', IsPlan d' plan' ∧ plan'.length = plan.length ∧ sumI (plan'.map (payL d')) = sumI (plan.map (payL d)))
    (h' : ∀ plan, IsPlan d' plan → ∃ plan', IsPlan d plan' ∧ plan'.length = plan.length ∧ sumI (plan'.map (payL d)) = sumI (plan.map (payL d'))) :
    (bestV d').can = (bestV d).can ∧ ((bestV d).can = true → (bestP d').length = (bestP d).length ∧ (bestV d').pay = (bestV d).pay) := by
  have hc : (bestV d').can = (bestV d).can := by
    rw [Bool.eq_iff_iff]
    constructor
    · intro hc
      obtain ⟨p, hp, _⟩ := h' _ (best_plan hn' hc)
      exact best_exists hn hp
    · intro hc
      obtain ⟨p, hp, _⟩ := h _ (best_plan hn hc)
      exact best_exists hn' hp
  refine ⟨hc, fun hcan => ?_⟩
  have hcan' : (bestV d').can = true := hc.trans hcan
  obtain ⟨p, hp, e1, e2⟩ := h _ (best_plan hn hcan)
  obtain ⟨q, hq, f1, f2⟩ := h' _ (best_plan hn' hcan')
  have a := best_least hn' hcan' hp
  have b := best_least hn hcan hq
  have l1 := best_len hn hcan
  have l2 := best_len hn' hcan'
  have p1 := best_pay hn hcan
  have p2 := best_pay hn' hcan'
  rw [e1, e2, p1] at a
  rw [f1, f2, p2] at b
  unfold lexLe at a b
  constructor <;> omega
theorem rot_best {d : DDay} {t : Nat} (ht : t ≤ d.blocks.length) (h : DayOk d) : (bestV (rotD t d)).can = (bestV d).can ∧ ((bestV d).can = true → (bestP (rotD t d)).length = (bestP d).length ∧ (bestV (rotD t d)).pay = (bestV d).pay) := by
  have hs := h.segs
  refine best_same (by omega) (by rw [rot_segN]; omega) (fun plan hp => ?_) (fun plan hp => unrot_plan ht h hp)
  have := rot_plan ht h hp
  exact ⟨_, this.1, by simp, this.2⟩
end Go.Proofs.YtckgapeednokjaaGreat
