import Derived.Test.YtckgapeednokjaaGreatUz
import Derived.Test.YtckgapeednokjaaGreatUl
set_option linter.unusedVariables false
set_option linter.unusedSimpArgs false
namespace Go.Proofs.YtckgapeednokjaaGreat
open Go Go.Proofs Go.RowKit

/-! ### TopKept, the plain law of the whole -/
theorem rlt_le {F : List Rc} (h : F.Pairwise Rlt) : F.Pairwise (fun r s => r.mac ≤ s.mac) := h.imp fun h => by
  rcases h with h | ⟨h, _⟩ <;> omega
/-- The last record of a machine, if it is kept, is the last one that is left. -/
theorem last_keep (m : Int) (p : Nat → Bool) : ∀ (l : List Rc) (i : Nat) (x : Rc), lastR m l = some x → x.kind ≠ 0 → lastR m (keepL p i l) = some x
  | [], i, x, h, _ => by simp [lastR] at h
  | r :: l, i, x, h, hk => by
    rw [lastR] at h
    cases e : lastR m l with
    | some y =>
      rw [e] at h
      simp only [Option.some.injEq] at h
      subst h
      have ih := last_keep m p l (i + 1) y e hk
      by_cases hp : r.kind ≠ 0 ∨ p i = true
      · rw [keepL, if_pos hp, lastR, ih]
      · rw [keepL, if_neg hp, ih]
    | none =>
      rw [e] at h
      by_cases hm : r.mac = m
      · simp only [hm, if_true, Option.some.injEq] at h
        subst h
        have h2 : lastR m (keepL p (i + 1) l) = none := lastR_nomac fun s hs => lastR_none e s ((keep_sub p l (i + 1)).subset hs)
        rw [keepL, if_pos (.inl hk), lastR, h2]
        simp [hm]
      · simp [hm] at h
/-- What is left of a machine: is its last record a Close? -/
def closedB (m : Int) (l : List Rc) : Bool := match lastR m l with
  | some x => decide (x.kind = 2)
  | none => false
theorem closedB_snoc (m : Int) (r : Rc) (l : List Rc) : closedB m (l ++ [r]) = if r.mac = m then decide (r.kind = 2) else closedB m l := by
  unfold closedB
  rw [lastR_snoc]
  by_cases h : r.mac = m
  · rw [if_pos h, if_pos h]
  · rw [if_neg h, if_neg h]
theorem knC_snoc (m : Int) (r : Rc) : ∀ l : List Rc, knC m (l ++ [r]) = knC m l + if r.mac = m ∧ r.kind = 0 then r.b else 0
  | [] => by simp [knC]
  | x :: l => by rw [List.cons_append, knC, knC, knC_snoc m r l]; omega
theorem knN_snoc (m : Int) (r : Rc) : ∀ l : List Rc, knN m (l ++ [r]) = knN m l + if r.mac = m ∧ r.kind = 0 then 1 else 0
  | [] => by simp [knN]
  | x :: l => by rw [List.cons_append, knN, knN, knN_snoc m r l]; omega
/-- The coins and the sales of lacks of a machine. -/
def lcC (m : Int) : List Lk → Int
  | [] => 0
  | x :: l => (if x.mac = m then x.coins else 0) + lcC m l
def lcN (m : Int) : List Lk → Int
  | [] => 0
  | x :: l => (if x.mac = m then x.sales else 0) + lcN m l
theorem lcC_snoc (m : Int) (x : Lk) : ∀ l : List Lk, lcC m (l ++ [x]) = lcC m l + if x.mac = m then x.coins else 0
  | [] => by simp [lcC]
  | y :: l => by rw [List.cons_append, lcC, lcC, lcC_snoc m x l]; omega
theorem lcN_snoc (m : Int) (x : Lk) : ∀ l : List Lk, lcN m (l ++ [x]) = lcN m l + if x.mac = m then x.sales else 0
  | [] => by simp [lcN]
  | y :: l => by rw [List.cons_append, lcN, lcN, lcN_snoc m x l]; omega
theorem lacks_sums (m : Int) : ∀ l : List (Rc × List Rc × Rc), (∀ s ∈ l, canOf s.1 s.2.1 s.2.2) → lcC m (lacksL l) = lkC m l ∧ lcN m (lacksL l) = lkN m l
  | [], _ => ⟨rfl, rfl⟩
  | s :: l, h => by
    obtain ⟨ih1, ih2⟩ := lacks_sums m l fun q hq => h q (by simp [hq])
    obtain ⟨c1, c2, c3, c4⟩ := h s (by simp)
    have hm : (lkOfS s).mac = s.2.2.mac := rfl
    have e : lacksL (s :: l) = (if 0 < (lkOfS s).sales then [lkOfS s] else []) ++ lacksL l := by
      unfold lacksL
      by_cases h : 0 < (lkOfS s).sales <;> simp [h]
    have hs : lkOfS s = lackOf s.1 s.2.1 s.2.2 := rfl
    rw [e, lkC, lkN]
    by_cases h0 : 0 < (lkOfS s).sales
    · rw [if_pos h0, List.singleton_append, lcC, lcN, ih1, ih2, hm, hs]
      exact ⟨rfl, rfl⟩
    · rw [hs] at h0
      rw [hs, if_neg h0, List.nil_append, ih1, ih2]
      have z1 : (lackOf s.1 s.2.1 s.2.2).sales = 0 := by omega
      have z2 : (lackOf s.1 s.2.1 s.2.2).coins = 0 := by omega
      rw [z1, z2]
      simp
/-- For a machine whose last record is a Close: what is found. -/
structure FoundOk (C L : List Rc) (lk : List Lk) (m : Int) : Prop where
  yes : (lastD m C).kind = 2 → closedB m L = true ∧ knC m L + lcC m lk = valB C m ∧ knN m L + lcN m lk = valA C m
  no : (lastD m C).kind ≠ 2 → valB C m = 0 ∧ valA C m = 0
theorem found_ok {F : List Rc} (hok : ∀ r ∈ F, RcOk r) (hpw : F.Pairwise Rlt) (p : Nat → Bool) (m : Int) :
    FoundOk (closeL none 0 0 F) (keepL p 0 (closeL none 0 0 F)) (lacksL (strL none (zeroR 0) [] (keepL p 0 (closeL none 0 0 F)))) m := by
  obtain ⟨hcan, hall⟩ := kept_all hok hpw p
  obtain ⟨l1, l2⟩ := lacks_sums m _ hcan
  constructor
  · intro hk
    cases e : lastR m (closeL none 0 0 F) with
    | none => simp [lastD, e, Rc.zero] at hk
    | some x =>
      have hx : x.kind = 2 := by simpa [lastD, e] using hk
      obtain ⟨h1, h2⟩ := hall m x e hx
      refine ⟨?_, ?_, ?_⟩
      · unfold closedB
        rw [last_keep m p _ 0 x e (by omega)]
        simpa using hx
      · rw [l1, h1]; simp [valB, e, hx]
      · rw [l2, h2]; simp [valA, e, hx]
  · intro hk
    cases e : lastR m (closeL none 0 0 F) with
    | none => simp [valB, valA, e]
    | some x =>
      have hx : x.kind ≠ 2 := by simpa [lastD, e] using hk
      simp [valB, valA, e, hx]
theorem lastR_mem {m : Int} : ∀ {l : List Rc} {x : Rc}, lastR m l = some x → x ∈ l ∧ x.mac = m
  | [], x, h => by simp [lastR] at h
  | r :: l, x, h => by
    rw [lastR] at h
    cases e : lastR m l with
    | some y =>
      rw [e] at h
      simp only [Option.some.injEq] at h
      subst h
      obtain ⟨h1, h2⟩ := lastR_mem e
      exact ⟨by simp [h1], h2⟩
    | none =>
      rw [e] at h
      by_cases hm : r.mac = m
      · simp only [hm, if_true, Option.some.injEq] at h
        subst h
        exact ⟨by simp, hm⟩
      · simp [hm] at h
theorem val_bd {F : List Rc} (hok : ∀ r ∈ F, RcOk r) (hn : F.length ≤ 60) (m : Int) : (0 ≤ valB (closeL none 0 0 F) m ∧ valB (closeL none 0 0 F) m ≤ 600000) ∧ (0 ≤ valA (closeL none 0 0 F) m ∧ valA (closeL none 0 0 F) m ≤ 60) := by
  cases e : lastR m (closeL none 0 0 F) with
  | none => simp [valB, valA, e]
  | some x =>
    by_cases hx : x.kind = 2
    · have h := close_bd F none 0 0 hok (by omega) (by omega) x (lastR_mem e).1 hx
      simp only [valB, valA, e, hx, if_true]
      omega
    · simp [valB, valA, e, hx]
theorem sumK_sumL : ∀ l : List Int, sumK l = sumL l
  | [] => rfl
  | x :: l => by rw [sumK, sumL, sumK_sumL l]
theorem sumK_bd {M : Int} (hM : 0 ≤ M) : ∀ l : List Int, (∀ x ∈ l, 0 ≤ x ∧ x ≤ M) → 0 ≤ sumK l ∧ sumK l ≤ l.length * M
  | [], _ => by simp [sumK]
  | x :: l, h => by
    have ih := sumK_bd hM l fun y hy => h y (by simp [hy])
    have hx := h x (by simp)
    rw [sumK, List.length_cons]
    have : ((l.length + 1 : Nat) : Int) * M = l.length * M + M := by rw [Int.natCast_add, Int.add_mul]; simp
    omega
theorem coin_sum {F : List Rc} (hpw : F.Pairwise Rlt) : coinF (closeL none 0 0 F) = sumK ((macsL none (closeL none 0 0 F)).map (valB (closeL none 0 0 F))) := by
  have h := coin_macs (closeL none 0 0 F) none (rlt_le (close_sorted hpw)) (fun m e => by cases e)
  simpa using h
theorem macs_len : ∀ (l : List Rc) (pm : Option Int), (macsL pm l).length ≤ l.length
  | [], _ => by simp [macsL]
  | r :: l, pm => by
    have := macs_len l (some r.mac)
    unfold macsL
    split <;> simp <;> omega
theorem coin_bd {F : List Rc} (hok : ∀ r ∈ F, RcOk r) (hn : F.length ≤ 60) (hpw : F.Pairwise Rlt) : 0 ≤ coinF (closeL none 0 0 F) ∧ coinF (closeL none 0 0 F) ≤ 36000000 := by
  rw [coin_sum hpw]
  have h := sumK_bd (M := 600000) (by omega) ((macsL none (closeL none 0 0 F)).map (valB (closeL none 0 0 F))) (fun x hx => by
    obtain ⟨m, _, rfl⟩ := List.mem_map.1 hx
    exact (val_bd hok hn m).1)
  have h2 := macs_len (closeL none 0 0 F) none
  rw [close_len] at h2
  rw [List.length_map] at h
  omega
theorem div_ok {F : List Rc} (hok : ∀ r ∈ F, RcOk r) (hn : F.length ≤ 60) (hpw : F.Pairwise Rlt) (h1 : (macsL none (closeL none 0 0 F)).length ≠ 0) (h5 : (macsL none (closeL none 0 0 F)).length ≤ 5) :
    DivOk (coinF (closeL none 0 0 F)) ((macsL none (closeL none 0 0 F)).map (valA (closeL none 0 0 F))) := by
  constructor
  · rw [List.length_map]; omega
  · intro x hx
    obtain ⟨m, _, rfl⟩ := List.mem_map.1 hx
    have := (val_bd hok hn m).2
    omega
  · rw [coin_sum hpw]
    have h := sumK_bd (M := 600000) (by omega) ((macsL none (closeL none 0 0 F)).map (valB (closeL none 0 0 F))) (fun x hx => by
      obtain ⟨m, _, rfl⟩ := List.mem_map.1 hx
      exact (val_bd hok hn m).1)
    rw [List.length_map] at h
    omega
/-- The parts. -/
def partAt (coins : Int) (ws : List Int) (c : Nat) : Int := divAt coins ws (leftAll coins ws).toNat c
theorem part_sum {coins : Int} {ws : List Int} (h : DivOk coins ws) : sumL ((List.range ws.length).map (partAt coins ws)) = coins := div_sum h
theorem sumL_nn : ∀ l : List Int, (∀ y ∈ l, 0 ≤ y) → 0 ≤ sumL l
  | [], _ => by simp [sumL]
  | y :: l, h => by
    have h1 := sumL_nn l fun z hz => h z (by simp [hz])
    have h2 := h y (by simp)
    rw [sumL]
    omega
theorem part_zero {coins : Int} {ws : List Int} (h : DivOk coins ws) {c : Nat} (hc : c < ws.length) (h0 : ws[c]? = some 0) (hs : ∃ x ∈ ws, 0 < x) : partAt coins ws c = 0 := by
  refine div_zero h hc ?_
  rw [divW_get hc]
  have hne : sumL ws ≠ 0 := fun e => by
    obtain ⟨x, hx, hp⟩ := hs
    have key : ∀ l : List Int, (∀ y ∈ l, 0 ≤ y) → x ∈ l → 0 < sumL l := by
      intro l
      induction l with
      | nil => intro _ h; simp at h
      | cons y t ih =>
        intro hall hmem
        rw [sumL]
        have h1 := hall y (by simp)
        have h2 : 0 ≤ sumL t := (sumL_nn t fun z hz => hall z (by simp [hz]))
        rcases List.mem_cons.1 hmem with rfl | hm
        · omega
        · have := ih (fun z hz => hall z (by simp [hz])) hm
          omega
    have := key ws (fun y hy => (h.ws y hy).1) hx
    omega
  rw [if_neg hne, h0]
  rfl
theorem part_bd {coins : Int} {ws : List Int} (h : DivOk coins ws) (c : Nat) : 0 ≤ partAt coins ws c ∧ partAt coins ws c ≤ 10000000000001 := by
  have := h.quo c
  unfold partAt divAt
  split <;> omega
/-- The coins, seen from record i on. -/
theorem coin_drop {C : List Rc} {i : Nat} {r : Rc} (hr : C[i]? = some r) : coinF (C.drop i) = (if r.kind = 2 ∧ (C[i + 1]?.map Rc.mac) ≠ some r.mac then r.b else 0) + coinF (C.drop (i + 1)) := by
  obtain ⟨h1, h2⟩ := List.getElem?_eq_some_iff.1 hr
  rw [List.drop_eq_getElem_cons h1, h2, coinF, List.head?_drop]
theorem coinF_nonneg : ∀ {l : List Rc}, (∀ r ∈ l, RcOk r) → 0 ≤ coinF l
  | [], _ => by simp [coinF]
  | r :: l, h => by
    have ih := coinF_nonneg (l := l) fun s hs => h s (by simp [hs])
    have hr := (h r (by simp)).kind
    unfold coinF
    split
    · rename_i hk
      rcases hr with hr | hr | hr <;> omega
    · omega
def ApartD (v u : Value) : Prop := v.ownBlock = none ∨ v.ownBlock ≠ u.ownBlock
theorem ApartD.symm {v u : Value} (h : ApartD v u) : ApartD u v := by
  unfold ApartD at *
  cases e : u.ownBlock with
  | none => exact .inl rfl
  | some b =>
    right
    rcases h with h | h
    · rw [h]; simp
    · intro h2; exact h (by rw [e, h2])
theorem ApartD.app {w : World} {v v' u : Value} {base : Nat} {e : TypeId} {size n : Nat} {xs : List Value} (h : ApartD v u) (hat : v'.ownBlock = v.ownBlock ∨ v'.ownBlock = some w.heap.size) (hu : w.ownsRow base e size u n xs) : ApartD v' u := by
  rcases hat with hat | hat
  · unfold ApartD
    rw [hat]
    exact h
  · right
    rw [hat]
    intro h2
    exact absurd (hu.lt _ h2.symm).2 (by omega)
theorem apart_nilD (u : Value) : ApartD (.slice none 0 0) u := .inl rfl
theorem coinF_drop {C : List Rc} (hok : ∀ r ∈ C, RcOk r) : ∀ i, coinF (C.drop i) ≤ coinF C := by
  induction C with
  | nil => intro i; simp
  | cons r l ih =>
    intro i
    cases i with
    | zero => simp
    | succ i =>
      have h1 := ih (fun s hs => hok s (by simp [hs])) i
      have hr := (hok r (by simp)).kind
      rw [List.drop_succ_cons]
      have h2 : coinF l ≤ coinF (r :: l) := by
        rw [coinF]
        split
        · rename_i hk
          rcases hr with hr | hr | hr <;> omega
        · omega
      omega
/-- Is a record left by the bits? -/
def bitP (bits : Int) (i : Nat) : Bool := (bits / 2 ^ (i % 64)).tmod 2 == 0
end Go.Proofs.YtckgapeednokjaaGreat
