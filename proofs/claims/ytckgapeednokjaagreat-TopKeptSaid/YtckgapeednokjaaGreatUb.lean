import Derived.Test.YtckgapeednokjaaGreatUa
set_option linter.unusedVariables false
set_option linter.unusedSimpArgs false
namespace Go.Proofs.YtckgapeednokjaaGreat

/-! ### The counted log: its records are right, and sorted; the coins of the machines -/
theorem close_shape : ∀ (l : List Rc) (pm : Option Int) (A B : Int) (k : Nat) (x : Rc), (closeL pm A B l)[k]? = some x → ∃ r, l[k]? = some r ∧ x.mac = r.mac ∧ x.seq = r.seq ∧ x.min = r.min ∧ x.kind = r.kind ∧ (r.kind ≠ 2 → x = r)
  | [], _, _, _, k, x, h => by simp [closeL] at h
  | r :: l, pm, A, B, k, x, h => by
    by_cases k0 : r.kind = 0
    · rw [closeL_sale k0] at h
      cases k with
      | zero => cases h; exact ⟨r, rfl, rfl, rfl, rfl, rfl, fun _ => rfl⟩
      | succ k => exact close_shape l _ _ _ k x h
    · by_cases k2 : r.kind = 2
      · rw [closeL_close k2] at h
        cases k with
        | zero => cases h; exact ⟨r, rfl, rfl, rfl, rfl, rfl, fun h => absurd k2 h⟩
        | succ k => exact close_shape l _ _ _ k x h
      · rw [closeL_other k0 k2] at h
        cases k with
        | zero => cases h; exact ⟨r, rfl, rfl, rfl, rfl, rfl, fun _ => rfl⟩
        | succ k => exact close_shape l _ _ _ k x h
theorem close_len : ∀ (l : List Rc) (pm : Option Int) (A B : Int), (closeL pm A B l).length = l.length := fun l pm A B => by
  have h := congrArg List.length (close_macs l pm A B)
  simpa using h
theorem close_bd : ∀ (l : List Rc) (pm : Option Int) (A B : Int), (∀ r ∈ l, RcOk r) → 0 ≤ A → 0 ≤ B → ∀ x ∈ closeL pm A B l, x.kind = 2 → (0 ≤ x.a ∧ x.a ≤ A + l.length) ∧ (0 ≤ x.b ∧ x.b ≤ B + 10000 * l.length)
  | [], _, _, _, _, _, _, x, hx, _ => by simp [closeL] at hx
  | r :: l, pm, A, B, hok, hA, hB, x, hx, hk => by
    have hr := hok r (by simp)
    have h2 : ∀ s ∈ l, RcOk s := fun s hs => hok s (by simp [hs])
    obtain ⟨A', hA'⟩ : ∃ a, (if pm = some r.mac then A else 0) = a := ⟨_, rfl⟩
    obtain ⟨B', hB'⟩ : ∃ a, (if pm = some r.mac then B else 0) = a := ⟨_, rfl⟩
    have a1 : 0 ≤ A' ∧ A' ≤ A := by rw [← hA']; split <;> omega
    have b1 : 0 ≤ B' ∧ B' ≤ B := by rw [← hB']; split <;> omega
    simp only [List.length_cons]
    by_cases k0 : r.kind = 0
    · rw [closeL_sale k0, hA', hB'] at hx
      have hb : 0 ≤ r.b ∧ r.b ≤ 10000 := by
        rcases hr.kind with h | h | h
        · exact h.2.2
        · omega
        · omega
      rcases List.mem_cons.1 hx with rfl | hx
      · omega
      · have := close_bd l _ _ _ h2 (by omega) (by omega) x hx hk
        omega
    · by_cases k2 : r.kind = 2
      · rw [closeL_close k2, hA', hB'] at hx
        rcases List.mem_cons.1 hx with rfl | hx
        · simp only
          omega
        · have := close_bd l _ _ _ h2 a1.1 b1.1 x hx hk
          omega
      · rw [closeL_other k0 k2, hA', hB'] at hx
        rcases List.mem_cons.1 hx with rfl | hx
        · omega
        · have := close_bd l _ _ _ h2 a1.1 b1.1 x hx hk
          omega
theorem close_ok {F : List Rc} (hok : ∀ r ∈ F, RcOk r) (hn : F.length ≤ 60) : ∀ x ∈ closeL none 0 0 F, RcOk x := fun x hx => by
  obtain ⟨k, hk⟩ := List.mem_iff_getElem?.1 hx
  obtain ⟨r, h1, h2, h3, h4, h5, h6⟩ := close_shape F none 0 0 k x hk
  have hr := hok r (List.mem_of_getElem? h1)
  by_cases k2 : r.kind = 2
  · have hb := close_bd F none 0 0 hok (by omega) (by omega) x hx (by omega)
    exact ⟨by rw [h2]; exact hr.mac, by rw [h3]; exact hr.seq, by rw [h4]; exact hr.min, .inr (.inr ⟨by omega, by omega, by omega⟩)⟩
  · rw [h6 k2]
    exact hr
theorem close_sorted {F : List Rc} (hpw : F.Pairwise Rlt) : (closeL none 0 0 F).Pairwise Rlt := by
  rw [List.pairwise_iff_getElem] at hpw ⊢
  intro i j hi hj hij
  obtain ⟨r, h1, h2, h3, h4, _, _⟩ := close_shape F none 0 0 i _ (List.getElem?_eq_getElem hi)
  obtain ⟨s, g1, g2, g3, g4, _, _⟩ := close_shape F none 0 0 j _ (List.getElem?_eq_getElem hj)
  obtain ⟨hi', e1⟩ := List.getElem?_eq_some_iff.1 h1
  obtain ⟨hj', e2⟩ := List.getElem?_eq_some_iff.1 g1
  have h := hpw i j hi' hj' hij
  rw [e1, e2] at h
  unfold Rlt at h ⊢
  rw [h2, h3, h4, g2, g3, g4]
  exact h
theorem keep_sub (p : Nat → Bool) : ∀ (l : List Rc) (i : Nat), (keepL p i l).Sublist l
  | [], _ => List.Sublist.refl _
  | r :: l, i => by
    by_cases h : r.kind ≠ 0 ∨ p i = true
    · rw [keepL_yes h]; exact (keep_sub p l (i + 1)).cons_cons r
    · rw [keepL, if_neg h]; exact (keep_sub p l (i + 1)).cons r
theorem keepL_skip {p : Nat → Bool} {i : Nat} {r : Rc} {l : List Rc} (h : ¬ (r.kind ≠ 0 ∨ p i = true)) : keepL p i (r :: l) = keepL p (i + 1) l := by
  rw [keepL, if_neg h]
theorem keep_snoc (p : Nat → Bool) (r : Rc) : ∀ (l : List Rc) (i : Nat), keepL p i (l ++ [r]) = keepL p i l ++ if r.kind ≠ 0 ∨ p (i + l.length) = true then [r] else []
  | [], i => by
    have e : i + ([] : List Rc).length = i := rfl
    rw [e]
    by_cases h : r.kind ≠ 0 ∨ p i = true
    · rw [if_pos h]; exact keepL_yes h
    · rw [if_neg h]
      exact keepL_skip h
  | x :: l, i => by
    have e : i + 1 + l.length = i + (x :: l).length := by simp; omega
    by_cases h : x.kind ≠ 0 ∨ p i = true
    · rw [List.cons_append, keepL_yes h, keepL_yes h, keep_snoc p r l (i + 1), e]; rfl
    · rw [List.cons_append, keepL, if_neg h, keepL, if_neg h, keep_snoc p r l (i + 1), e]
/-- The machines. -/
def macsL : Option Int → List Rc → List Int
  | _, [] => []
  | pm, r :: l => if pm = some r.mac then macsL (some r.mac) l else r.mac :: macsL (some r.mac) l
def sumK : List Int → Int
  | [] => 0
  | a :: l => a + sumK l
theorem sumK_snoc : ∀ (l : List Int) (a : Int), sumK (l ++ [a]) = sumK l + a
  | [], a => by simp [sumK]
  | x :: l, a => by rw [List.cons_append, sumK, sumK, sumK_snoc l a]; omega
def lastMac (pm : Option Int) (l : List Rc) : Option Int := match l.getLast? with
  | some r => some r.mac
  | none => pm
theorem macs_snoc (r : Rc) : ∀ (l : List Rc) (pm : Option Int), macsL pm (l ++ [r]) = macsL pm l ++ if lastMac pm l = some r.mac then [] else [r.mac]
  | [], pm => by
    by_cases h : pm = some r.mac
    · simp [macsL, lastMac, h]
    · simp [macsL, lastMac, h]
  | x :: l, pm => by
    have e : lastMac pm (x :: l) = lastMac (some x.mac) l := by
      unfold lastMac
      cases l with
      | nil => rfl
      | cons y t =>
        rw [List.getLast?_cons_cons]
        cases h : (y :: t).getLast? with
        | none => simp at h
        | some z => rfl
    rw [e, List.cons_append, macsL, macsL, macs_snoc r l (some x.mac)]
    split <;> simp
/-- What a machine has closed with, if its last record is a Close. -/
def valB (F : List Rc) (m : Int) : Int := match lastR m F with
  | some x => if x.kind = 2 then x.b else 0
  | none => 0
def valA (F : List Rc) (m : Int) : Int := match lastR m F with
  | some x => if x.kind = 2 then x.a else 0
  | none => 0
/-- The Closes that end their machine. -/
def coinF : List Rc → Int
  | [] => 0
  | r :: l => (if r.kind = 2 ∧ (l.head?.map Rc.mac) ≠ some r.mac then r.b else 0) + coinF l
theorem lastR_some {m : Int} : ∀ {l : List Rc}, (∃ s ∈ l, s.mac = m) → lastR m l ≠ none := fun ⟨s, hs, e⟩ h => lastR_none h s hs e
theorem lastR_nomac {m : Int} : ∀ {l : List Rc}, (∀ s ∈ l, s.mac ≠ m) → lastR m l = none
  | [], _ => rfl
  | r :: l, h => by
    rw [lastR, lastR_nomac (l := l) fun s hs => h s (by simp [hs])]
    simp [h r (by simp)]
theorem macs_lt : ∀ (l : List Rc) (m : Int), l.Pairwise (fun r s => r.mac ≤ s.mac) → (∀ r ∈ l, m ≤ r.mac) → ∀ y ∈ macsL (some m) l, m < y
  | [], _, _, _, y, hy => by simp [macsL] at hy
  | r :: l, m, hp, hm, y, hy => by
    have hp2 := List.pairwise_cons.1 hp
    have h1 := hm r (by simp)
    unfold macsL at hy
    by_cases e : some m = some r.mac
    · rw [if_pos e] at hy
      have := macs_lt l r.mac hp2.2 hp2.1 y hy
      omega
    · rw [if_neg e] at hy
      have e2 : m ≠ r.mac := fun h => e (by rw [h])
      rcases List.mem_cons.1 hy with rfl | hy
      · omega
      · have := macs_lt l r.mac hp2.2 hp2.1 y hy
        omega
theorem coin_macs : ∀ (l : List Rc) (pm : Option Int), l.Pairwise (fun r s => r.mac ≤ s.mac) → (∀ m, pm = some m → ∀ r ∈ l, m ≤ r.mac) →
    coinF l = sumK ((macsL pm l).map (valB l)) + (match pm with | some m => valB l m | none => 0)
  | [], pm, _, _ => by
    cases pm <;> rfl
  | r :: l, pm, hp, hm => by
    have hp2 := List.pairwise_cons.1 hp
    have ih := coin_macs l (some r.mac) hp2.2 fun m e s hs => by cases e; exact hp2.1 s hs
    have hmap : (macsL (some r.mac) l).map (valB (r :: l)) = (macsL (some r.mac) l).map (valB l) := List.map_congr_left fun y hy => by
      have h1 := macs_lt l r.mac hp2.2 hp2.1 y hy
      have h2 : ¬ r.mac = y := by omega
      unfold valB
      rw [lastR]
      cases lastR y l with
      | some x => rfl
      | none => simp [h2]
    have hval : valB (r :: l) r.mac = (if r.kind = 2 ∧ (l.head?.map Rc.mac) ≠ some r.mac then r.b else 0) + valB l r.mac := by
      unfold valB
      rw [lastR]
      cases e : lastR r.mac l with
      | some x =>
        have h1 : (l.head?.map Rc.mac) = some r.mac := by
          cases l with
          | nil => cases e
          | cons s t =>
            have h2 := hp2.1 s (by simp)
            have h3 : ∃ y ∈ s :: t, y.mac = r.mac := Classical.byContradiction fun hc => by
              rw [lastR_nomac fun y hy he => hc ⟨y, hy, he⟩] at e
              cases e
            obtain ⟨y, hy, he⟩ := h3
            have h4 : s.mac ≤ y.mac := by
              rcases List.mem_cons.1 hy with rfl | hy
              · omega
              · exact (List.pairwise_cons.1 hp2.2).1 y hy
            have : s.mac = r.mac := by omega
            simp [this]
        simp only [h1, ne_eq, not_true, and_false, if_false, Int.zero_add]
      | none =>
        have h1 : (l.head?.map Rc.mac) ≠ some r.mac := by
          cases l with
          | nil => simp
          | cons s t =>
            have := lastR_none e s (by simp)
            simpa using this
        simp only [if_true]
        by_cases k2 : r.kind = 2
        · rw [if_pos k2, if_pos ⟨k2, h1⟩]; omega
        · rw [if_neg k2, if_neg (fun h => k2 h.1)]; rfl
    rw [coinF, ih, macsL]
    by_cases e : pm = some r.mac
    · subst e
      rw [if_pos rfl, hmap]
      simp only
      rw [hval]
      omega
    · rw [if_neg e, List.map_cons, sumK, hmap, hval]
      have h0 : (match pm with | some m => valB (r :: l) m | none => 0) = 0 := by
        cases pm with
        | none => rfl
        | some m =>
          have h1 := hm m rfl
          have h2 : ∀ s ∈ r :: l, s.mac ≠ m := fun s hs he => by
            have h3 := h1 r (by simp)
            have h4 : m ≠ r.mac := fun h => e (by rw [h])
            rcases List.mem_cons.1 hs with rfl | hs
            · exact h4 he.symm
            · have := hp2.1 s hs
              omega
          show valB (r :: l) m = 0
          unfold valB
          rw [lastR_nomac h2]
      rw [h0]
      simp only
      omega
end Go.Proofs.YtckgapeednokjaaGreat
