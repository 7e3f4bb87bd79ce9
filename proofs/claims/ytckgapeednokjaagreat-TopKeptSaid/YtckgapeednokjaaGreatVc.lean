import Derived.Test.YtckgapeednokjaaGreatVa
set_option linter.unusedVariables false
set_option linter.unusedSimpArgs false
namespace Go.Proofs.YtckgapeednokjaaGreat
open Go Go.Proofs Go.RowKit

/-! ### TopKept: bounds, the row of sales, lacks in memory -/
theorem kn_bd (m : Int) : ∀ l : List Rc, (∀ r ∈ l, RcOk r) → (0 ≤ knC m l ∧ knC m l ≤ l.length * 10000) ∧ (0 ≤ knN m l ∧ knN m l ≤ l.length)
  | [], _ => by simp [knC, knN]
  | r :: l, h => by
    have ih := kn_bd m l fun s hs => h s (by simp [hs])
    have hk := (h r (by simp)).kind
    rw [knC, knN, List.length_cons]
    have e : ((l.length + 1 : Nat) : Int) * 10000 = l.length * 10000 + 10000 := by rw [Int.natCast_add, Int.add_mul]; simp
    have e2 : ((l.length + 1 : Nat) : Int) = l.length + 1 := by simp
    rw [e, e2]
    split
    · rename_i h0
      rcases hk with hk | hk | hk <;> omega
    · omega
structure LkB (x : Lk) : Prop where
  sales : 0 ≤ x.sales ∧ x.sales ≤ 9999
  coins : 0 ≤ x.coins ∧ x.coins ≤ 99990000
theorem lacks_bd {L : List Rc} (hok : ∀ r ∈ L, RcOk r) (hcan : ∀ s ∈ strL none (zeroR 0) [] L, canOf s.1 s.2.1 s.2.2) : ∀ x ∈ lacksL (strL none (zeroR 0) [] L), LkB x := by
  intro x hx
  obtain ⟨hx, _⟩ := List.mem_filter.1 hx
  obtain ⟨s, hs, rfl⟩ := List.mem_map.1 hx
  have hst := str_ok L L [] none (zeroR 0) [] rfl (.inl ⟨0, rfl⟩) (by simp) (by simp) s hs
  obtain ⟨c1, c2, c3, c4⟩ := hcan s hs
  have hr := (hok _ hst.tr.1).seq
  have hf : 0 ≤ s.1.seq := by
    rcases hst.fr with ⟨m, e⟩ | h
    · rw [e]; simp [zeroR]
    · have := (hok _ h).seq; omega
  have hs0 : (lkOfS s) = lackOf s.1 s.2.1 s.2.2 := rfl
  rw [hs0]
  constructor <;> omega
theorem lc_bd (m : Int) : ∀ l : List Lk, (∀ x ∈ l, LkB x) → (0 ≤ lcC m l ∧ lcC m l ≤ l.length * 99990000) ∧ (0 ≤ lcN m l ∧ lcN m l ≤ l.length * 9999)
  | [], _ => by simp [lcC, lcN]
  | x :: l, h => by
    have ih := lc_bd m l fun s hs => h s (by simp [hs])
    have hx := h x (by simp)
    have h1 := hx.sales
    have h2 := hx.coins
    rw [lcC, lcN, List.length_cons]
    have e : ((l.length + 1 : Nat) : Int) * 99990000 = l.length * 99990000 + 99990000 := by rw [Int.natCast_add, Int.add_mul]; simp
    have e2 : ((l.length + 1 : Nat) : Int) * 9999 = l.length * 9999 + 9999 := by rw [Int.natCast_add, Int.add_mul]; simp
    rw [e, e2]
    split <;> omega
/-- The sales as far as they are counted. -/
def salesL (M : List Int) (f : Int → Int) (k : Nat) : List Int := (M.take k).map f ++ List.replicate (M.length - k) 0
theorem salesL_len {M : List Int} {f : Int → Int} {k : Nat} (hk : k ≤ M.length) : (salesL M f k).length = M.length := by simp [salesL]; omega
theorem salesL_start (M : List Int) (f : Int → Int) : salesL M f 0 = List.replicate M.length 0 := by simp [salesL]
theorem salesL_end (M : List Int) (f : Int → Int) : salesL M f M.length = M.map f := by simp [salesL]
theorem salesL_at {M : List Int} {f : Int → Int} {k : Nat} (hk : k < M.length) : (salesL M f k)[k]? = some 0 := by
  unfold salesL
  rw [List.getElem?_append_right (by simp; omega), List.length_map, List.length_take, Nat.min_eq_left (by omega), Nat.sub_self, List.getElem?_replicate]
  simp; omega
theorem salesL_set {M : List Int} {f : Int → Int} {k : Nat} {m : Int} (hm : M[k]? = some m) : (salesL M f k).set k (f m) = salesL M f (k + 1) := by
  obtain ⟨hk, he⟩ := List.getElem?_eq_some_iff.1 hm
  unfold salesL
  have e1 : M.length - k = (M.length - (k + 1)) + 1 := by omega
  rw [List.set_append_right _ _ (by simp; omega), List.length_map, List.length_take, Nat.min_eq_left (by omega), Nat.sub_self, e1, List.replicate_succ, List.set_cons_zero, List.take_add_one, hm, List.map_append]
  simp
theorem salesL_zero {M : List Int} {f : Int → Int} {k : Nat} {m : Int} (hm : M[k]? = some m) (h0 : f m = 0) : salesL M f (k + 1) = salesL M f k := by
  rw [← salesL_set hm, h0]
  have h := salesL_at (f := f) (List.getElem?_eq_some_iff.1 hm).1
  obtain ⟨h1, h2⟩ := List.getElem?_eq_some_iff.1 h
  calc (salesL M f k).set k 0 = (salesL M f k).set k ((salesL M f k)[k]) := by rw [h2]
    _ = salesL M f k := List.set_getElem_self h1
/-- A lack in one's own row. -/
theorem lk_at {w : World} {base n c : Nat} {A : Option Addr} {e : TypeId} {l : List Lk} (h : w.ownsRow base e 5 (.slice A n c) n (lkCells l)) {k : Nat} (hk : k < l.length) :
    ∃ b o x, A = some ⟨b, o, none⟩ ∧ l[k]? = some x ∧ w.cell? ⟨b, o + k * 5, none⟩ = some (.int .i64 x.mac) ∧ w.cell? ⟨b, o + k * 5 + 3, none⟩ = some (.int .i64 x.sales) ∧ w.cell? ⟨b, o + k * 5 + 4, none⟩ = some (.int .i64 x.coins) := by
  have hlen : (lkCells l).length = l.length * 5 := flat_length (f := lkC5) (n := 5) (fun _ => rfl) l
  have hn : l.length = n := by have := h.1; omega
  obtain ⟨g, rfl, _, _⟩ := own_some h (by omega)
  refine ⟨g, 0, l[k], rfl, List.getElem?_eq_getElem hk, ?_⟩
  have key : ∀ j, j < 5 → w.cell? ⟨g, 0 + k * 5 + j, none⟩ = (lkC5 l[k])[j]? := fun j hj => by
    rw [Nat.zero_add, h.cellAt (k * 5 + j) (by omega)]
    exact flat_get (f := lkC5) (n := 5) (fun _ => rfl) (List.getElem?_eq_getElem hk) hj
  exact ⟨key 0 (by omega), key 3 (by omega), key 4 (by omega)⟩
theorem ne_of_apart {v u : Value} {g : Nat} (h : v.ownBlock = none ∨ v.ownBlock ≠ u.ownBlock) (hu : u.ownBlock = some g) : v.ownBlock ≠ some g := by
  rcases h with h | h
  · rw [h]; simp
  · rw [← hu]; exact h
/-- A field of a whole struct: its value, for the walk. -/
theorem put_to {K : Act → World → Prop} {a : Act} {d : Option Nat} {v w : Value} {W : World} (h : K (a.put d w) W) (e : v = w) : K (a.put d v) W := e ▸ h
/-- Has a machine sold? -/
def soldB (l : List Int) : Bool := l.any fun x => decide (0 < x)
theorem soldB_snoc (l : List Int) (x : Int) : soldB (l ++ [x]) = (soldB l || decide (0 < x)) := by simp [soldB]
theorem soldB_yes {l : List Int} (h : soldB l = true) : ∃ x ∈ l, 0 < x := by
  obtain ⟨x, h1, h2⟩ := List.any_eq_true.1 h
  exact ⟨x, h1, by simpa using h2⟩
theorem sumK_take {l : List Int} {k : Nat} {x : Int} (h : l[k]? = some x) : sumK (l.take (k + 1)) = sumK (l.take k) + x := by rw [sumK_sumL, sumK_sumL, sumL_take h]
end Go.Proofs.YtckgapeednokjaaGreat
