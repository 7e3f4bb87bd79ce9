import Derived.Test.YtmbkpfkkohpnkaaCo
set_option linter.unusedVariables false
set_option linter.unusedSimpArgs false
namespace Go.Proofs.Ytmbkpfkkohpnkaa
open Go Go.Proofs Go.RowKit

/-! ### Rides, the same ones once, in time: plain -/
def insR (r : Rd) : List Rd → List Rd
  | [] => [r]
  | s :: l => if befR r s then r :: s :: l else if r = s then s :: l else s :: insR r l
def onceL (l : List Rd) : List Rd := l.foldr insR []
def Rising (l : List Rd) : Prop := l.Pairwise fun r s => befR r s = true
theorem befR_irrefl (r : Rd) : befR r r = false := by
  rw [Bool.eq_false_iff, Ne, befR_iff]
  omega
theorem befR_trans {r s t : Rd} (h : befR r s = true) (k : befR s t = true) : befR r t = true := by
  rw [befR_iff] at *
  omega
theorem mem_insR {r x : Rd} : ∀ {l : List Rd}, x ∈ insR r l ↔ x = r ∨ x ∈ l
  | [] => by simp [insR]
  | s :: l => by
    unfold insR
    split
    · simp
    · split
      · rename_i e
        subst e
        simp
      · simp only [List.mem_cons, mem_insR (l := l)]
        constructor
        · rintro (h | h | h)
          · exact Or.inr (Or.inl h)
          · exact Or.inl h
          · exact Or.inr (Or.inr h)
        · rintro (h | h | h)
          · exact Or.inr (Or.inl h)
          · exact Or.inl h
          · exact Or.inr (Or.inr h)
theorem insR_rising {r : Rd} : ∀ {l : List Rd}, Rising l → Rising (insR r l)
  | [], _ => by simp [insR, Rising]
  | s :: l, h => by
    have h2 := List.pairwise_cons.1 h
    unfold insR
    by_cases hb : befR r s = true
    · rw [if_pos hb]
      refine List.pairwise_cons.2 ⟨fun x hx => ?_, h⟩
      rcases List.mem_cons.1 hx with e | hx
      · subst e; exact hb
      · exact befR_trans hb (h2.1 x hx)
    · rw [if_neg hb]
      by_cases e : r = s
      · rw [if_pos e]; exact h
      · rw [if_neg e]
        refine List.pairwise_cons.2 ⟨fun x hx => ?_, insR_rising h2.2⟩
        rcases mem_insR.1 hx with rfl | hx
        · cases hs : befR s x with
          | true => rfl
          | false => exact absurd (befR_total (by simpa using hb) hs) e
        · exact h2.1 x hx
theorem mem_onceL {x : Rd} : ∀ {l : List Rd}, x ∈ onceL l ↔ x ∈ l
  | [] => by simp [onceL]
  | r :: l => by
    show x ∈ insR r (onceL l) ↔ _
    rw [mem_insR, mem_onceL (l := l), List.mem_cons]
theorem onceL_rising : ∀ l : List Rd, Rising (onceL l)
  | [] => by simp [onceL, Rising]
  | r :: l => insR_rising (onceL_rising l)
theorem rising_unique : ∀ {l m : List Rd}, Rising l → Rising m → (∀ x, x ∈ l ↔ x ∈ m) → l = m
  | [], [], _, _, _ => rfl
  | [], y :: m, _, _, h => by have := (h y).2 List.mem_cons_self; cases this
  | x :: l, [], _, _, h => by have := (h x).1 List.mem_cons_self; cases this
  | x :: l, y :: m, hl, hm, h => by
    have h1 := List.pairwise_cons.1 hl
    have h2 := List.pairwise_cons.1 hm
    have e : x = y := by
      rcases List.mem_cons.1 ((h x).1 List.mem_cons_self) with e | hx
      · exact e
      · rcases List.mem_cons.1 ((h y).2 List.mem_cons_self) with e | hy
        · exact e.symm
        · have := befR_trans (h1.1 y hy) (h2.1 x hx)
          rw [befR_irrefl] at this
          cases this
    subst e
    have ht : ∀ z, z ∈ l ↔ z ∈ m := fun z => by
      constructor
      · intro hz
        rcases List.mem_cons.1 ((h z).1 (List.mem_cons_of_mem _ hz)) with e | hz'
        · subst e
          have := h1.1 z hz
          rw [befR_irrefl] at this
          cases this
        · exact hz'
      · intro hz
        rcases List.mem_cons.1 ((h z).2 (List.mem_cons_of_mem _ hz)) with e | hz'
        · subst e
          have := h2.1 z hz
          rw [befR_irrefl] at this
          cases this
        · exact hz'
    rw [rising_unique h1.2 h2.2 ht]
theorem rising_sorted {l : List Rd} (h : Rising l) : Sorted l := fun i j r s hij hr hs => by
  obtain ⟨hi, rfl⟩ := List.getElem?_eq_some_iff.1 hr
  obtain ⟨hj, rfl⟩ := List.getElem?_eq_some_iff.1 hs
  have := List.pairwise_iff_getElem.1 h i j hi hj hij
  rw [befR_iff] at this
  omega
theorem rising_nodup {l : List Rd} (h : Rising l) : l.Nodup := List.Pairwise.imp (fun {a b} hb e => by subst e; rw [befR_irrefl] at hb; cases hb) h
theorem insR_le (r : Rd) : ∀ l : List Rd, (insR r l).length ≤ l.length + 1
  | [] => by simp [insR]
  | s :: l => by
    unfold insR
    split
    · simp
    · split
      · simp
      · have := insR_le r l
        simp only [List.length_cons]
        omega
theorem onceL_le : ∀ l : List Rd, (onceL l).length ≤ l.length
  | [] => by simp [onceL]
  | r :: l => by
    have h1 := insR_le r (onceL l)
    have h2 := onceL_le l
    show (insR r (onceL l)).length ≤ _
    simp only [List.length_cons]
    omega
/-! what Compact makes of sorted rides -/
theorem comp_rising {l : List Rd} (hs : ∀ (i j : Nat) (r s : Rd), i < j → l[i]? = some r → l[j]? = some s → befR s r = false) : ∀ {k : Nat}, k ≤ l.length →
    Rising (compL l k) ∧ (∀ x, x ∈ compL l k ↔ ∃ i, i < k ∧ l[i]? = some x) ∧ ∀ x ∈ compL l k, ∀ r, l[k - 1]? = some r → x = r ∨ befR x r = true
  | 0, _ => by simp [compL, Rising]
  | k + 1, hk => by
    obtain ⟨h1, h2, h3⟩ := comp_rising hs (k := k) (by omega)
    obtain ⟨r, hr⟩ : ∃ r, l[k]? = some r := ⟨_, List.getElem?_eq_getElem (by omega)⟩
    cases hq : keepB l k with
    | true =>
      have hbef : ∀ x ∈ compL l k, befR x r = true := fun x hx => by
        obtain ⟨i, hi, hxi⟩ := (h2 x).1 hx
        obtain ⟨s, hs1⟩ : ∃ s, l[k - 1]? = some s := ⟨_, List.getElem?_eq_getElem (by omega)⟩
        have hne : s ≠ r := by
          rintro rfl
          unfold keepB at hq
          rw [hr, hs1] at hq
          simp at hq
          omega
        have hsr : befR s r = true := by
          cases hb : befR s r with
          | true => rfl
          | false => exact absurd (befR_total hb (hs (k - 1) k s r (by omega) hs1 hr)) hne
        rcases h3 x hx s hs1 with e | h
        · subst e; exact hsr
        · exact befR_trans h hsr
      rw [compL_keep hr hq]
      refine ⟨List.pairwise_append.2 ⟨h1, by simp, fun a ha b hb => ?_⟩, fun x => ?_, fun x hx s hs2 => ?_⟩
      · simp only [List.mem_singleton] at hb
        subst hb
        exact hbef a ha
      · rw [List.mem_append, h2, List.mem_singleton]
        constructor
        · rintro (⟨i, hi, hx⟩ | rfl)
          · exact ⟨i, by omega, hx⟩
          · exact ⟨k, by omega, hr⟩
        · rintro ⟨i, hi, hx⟩
          by_cases e : i = k
          · subst e
            rw [hr] at hx
            cases hx
            exact Or.inr rfl
          · exact Or.inl ⟨i, by omega, hx⟩
      · simp only [Nat.add_sub_cancel] at hs2
        rw [hr] at hs2
        cases hs2
        rcases List.mem_append.1 hx with hx | hx
        · exact Or.inr (hbef x hx)
        · simp only [List.mem_singleton] at hx
          exact Or.inl hx
    | false =>
      have hk0 : k ≠ 0 := by
        rintro rfl
        cases hq
      have hsame : l[k - 1]? = some r := by
        unfold keepB at hq
        rw [hr] at hq
        simp at hq
        exact hq.2.symm
      rw [compL_drop hq]
      refine ⟨h1, fun x => ?_, fun x hx s hs2 => ?_⟩
      · rw [h2]
        constructor
        · rintro ⟨i, hi, hx⟩
          exact ⟨i, by omega, hx⟩
        · rintro ⟨i, hi, hx⟩
          by_cases e : i = k
          · subst e
            rw [hr] at hx
            cases hx
            exact ⟨i - 1, by omega, hsame⟩
          · exact ⟨i, by omega, hx⟩
      · simp only [Nat.add_sub_cancel] at hs2
        rw [hr] at hs2
        cases hs2
        exact h3 x hx _ hsame
theorem comp_once {l L : List Rd} (hp : L.Perm l) (hs : ∀ (i j : Nat) (r s : Rd), i < j → L[i]? = some r → L[j]? = some s → befR s r = false) : compL L L.length = onceL l := by
  obtain ⟨h1, h2, _⟩ := comp_rising hs (Nat.le_refl _)
  refine rising_unique h1 (onceL_rising l) fun x => ?_
  rw [h2, mem_onceL, ← hp.mem_iff]
  constructor
  · rintro ⟨i, _, hx⟩
    exact List.mem_of_getElem? hx
  · intro hx
    obtain ⟨i, hi⟩ := List.getElem?_of_mem hx
    exact ⟨i, (List.getElem?_eq_some_iff.1 hi).1, hi⟩
/-! ### once -/
def GivesRds (w : World) (l : List Rd) (e : Ending) (w' : World) : Prop := ∃ A c, e = .returned (.slice A l.length c) ∧ RdsAt w' (.slice A l.length c) l ∧ Below w.heap.size w w'
theorem below_by {w w1 w' : World} {g : Nat} (hb : Below w.heap.size w w1) (hg : w.heap.size ≤ g) (h : w1.grownBy w' (some g)) : Below w.heap.size w w' :=
  hb.trans ⟨h.os, h.tape, h.output, h.size, fun k hk => h.block k (by have := hb.size; omega) (fun e => by injection e; omega)⟩
set_option maxRecDepth 100000 in
theorem once_any (v : Value) (l : List Rd) (w : World) (hv : RdsAt w v l) (hl : l.length ≤ 1000000) : Calls Try.prog 76 #[v] w (GivesRds w (onceL l)) := by
  have Hc := Lib.hid (clone_rds v l w hv hl)
  obtain ⟨A, c, rfl, hc, hm⟩ := hv.form
  clear hv
  by_cases hne : l = []
  · subst hne
    simp only [List.length_nil] at *
    go_enter Try.func76, Try.ntmps76
    go_wp2_with fail
    refine Hc.out.mono ?_
    rintro e w1 ⟨A1, c1, rfl, ho, hb1⟩
    have h1 : c1 ≤ maxLen := by
      obtain ⟨A2, c2, e, _, h2, _⟩ := rds_own (l := []) ho
      cases e
      exact h2
    clear ho
    go_wp2_with fail
    refine (sort_nil _ _ _ _).mono ?_
    rintro e w2 ⟨rfl, rfl⟩
    have hcn : Calls Try.prog 102 #[.slice A1 0 c1] w1 (Same w1 (.slice A1 0 c1)) := by
      go_enter Try.func102, Try.ntmps102
      go_wp2
      go_ret
      exact ⟨rfl, rfl⟩
    have Hcn := Lib.hid hcn
    clear hcn
    go_wp2_with fail
    refine Hcn.out.mono ?_
    rintro e w2 ⟨rfl, rfl⟩
    go_wp2
    go_ret
    exact ⟨A1, c1, rfl, RdsAt.nil _ _ h1 _, hb1⟩
  · have hn : 0 < l.length := List.length_pos_iff.2 hne
    have Hne := Lib.hid hne
    clear hne
    go_enter Try.func76, Try.ntmps76
    go_wp2_with fail
    refine Hc.out.mono ?_
    rintro e w1 ⟨A1, c1, rfl, ho, hb1⟩
    obtain ⟨g, rfl, hg⟩ : ∃ g, A1 = some ⟨g, 0, none⟩ ∧ w.heap.size ≤ g := by
      rcases ho.2 with ⟨h, h0⟩ | ⟨g, cap, cur, h, h2, _⟩
      · omega
      · cases h
        exact ⟨g, rfl, h2⟩
    have hcc : l.length ≤ c1 ∧ c1 ≤ maxLen := by
      obtain ⟨A2, c2, e, h1, h2, _⟩ := rds_own ho
      cases e
      exact ⟨h1, h2⟩
    have Ho := Lib.hid ho
    clear ho
    go_wp2_with fail
    refine (sortRd_any g c1 _ l w1 Hne.out hl Ho.out).mono ?_
    rintro e w2 ⟨rfl, hg2, L, hp, hs, hrow⟩
    have hb2 := below_by hb1 hg hg2
    have HL := Lib.hid (comp_once hp hs)
    have hlen := hp.length_eq
    have hcp := compact_any g c1 L w2 hrow (by intro e; rw [e] at hlen; simp at hlen; omega) (by omega) (by omega)
    rw [HL.out, hlen] at hcp
    have Hcp := Lib.hid hcp
    clear hcp hp hs hrow
    go_wp2_with fail
    refine Hcp.out.mono ?_
    rintro e w3 ⟨rfl, hg3, hcells⟩
    have hb3 := below_by hb2 hg hg3
    have Hcells := Lib.hid hcells
    clear hcells
    go_wp2
    go_ret
    have hle := onceL_le l
    exact ⟨_, c1, rfl, ⟨_, c1, rfl, by omega, hcc.2, fun _ => ⟨g, 0, rfl, fun k r hr => by simpa using Hcells.out k r hr⟩⟩, hb3⟩
end Go.Proofs.Ytmbkpfkkohpnkaa
