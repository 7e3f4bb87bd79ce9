import Derived.Test.YtobeffjdfhkjeaaPN
set_option linter.unusedVariables false
set_option linter.unusedSimpArgs false
namespace Go.Proofs.Ytobeffjdfhkjeaa
open Go Go.RowKit

/-! ### Lists in another order: plain -/
def rotL {α : Type} (t : Nat) (l : List α) : List α := l.drop t ++ l.take t
theorem rotL_len {α : Type} {t : Nat} {l : List α} (h : t ≤ l.length) : (rotL t l).length = l.length := by simp [rotL]; omega
theorem rotL_mem {α : Type} {t : Nat} {l : List α} {x : α} (h : x ∈ rotL t l) : x ∈ l := by
  simp only [rotL, List.mem_append] at h
  rcases h with h | h
  · exact List.mem_of_mem_drop h
  · exact List.mem_of_mem_take h
theorem rotL_at {α : Type} {t k : Nat} {l : List α} (ht : t < l.length) (hk : k < l.length) : (rotL t l)[k]? = l[(k + t) % l.length]? := by
  unfold rotL
  by_cases h : k < l.length - t
  · rw [List.getElem?_append_left (by simp; omega), List.getElem?_drop, Nat.mod_eq_of_lt (by omega), Nat.add_comm]
  · rw [List.getElem?_append_right (by simp; omega), List.length_drop, List.getElem?_take, if_pos (by omega)]
    have e : (k + t) % l.length = k - (l.length - t) := by
      rw [show k + t = (k - (l.length - t)) + l.length by omega, Nat.add_mod_right, Nat.mod_eq_of_lt (by omega)]
    rw [e]

theorem sumL_rot (t : Nat) (l : List Int) : sumL (rotL t l) = sumL l := by
  unfold rotL
  rw [sumL_append]
  have := sumL_append (l.take t) (l.drop t)
  rw [List.take_append_drop] at this
  omega

def bsum (c : Nat) : List Strat → Int × Int
  | [] => (0, 0)
  | s :: ss => addP (rangeAt s c) (bsum c ss)
theorem addP_comm (a b : Int × Int) : addP a b = addP b a := by simp [addP, Int.add_comm]
theorem addP_assoc (a b c : Int × Int) : addP (addP a b) c = addP a (addP b c) := by simp [addP, Int.add_assoc]
theorem addP_zero (a : Int × Int) : addP a (0, 0) = a := by simp [addP]
theorem zero_addP (a : Int × Int) : addP (0, 0) a = a := by simp [addP]
theorem bsum_append (c : Nat) (a b : List Strat) : bsum c (a ++ b) = addP (bsum c a) (bsum c b) := by
  induction a with
  | nil => simp [bsum, zero_addP]
  | cons x a ih => simp [bsum, ih, addP_assoc]
theorem boundK_bsum (ss : List Strat) (c : Nat) : ∀ k, k ≤ ss.length → boundK ss c k = bsum c (ss.take k)
  | 0, _ => by simp [boundK, bsum]
  | k + 1, hk => by
    have hs := List.getElem?_eq_getElem (l := ss) (i := k) (by omega)
    rw [boundK, boundK_bsum ss c k (by omega), List.take_add_one, bsum_append, hs, Option.getD_some]
    simp [bsum, addP_zero]
theorem bound_all (ss : List Strat) (c : Nat) : boundK ss c ss.length = bsum c ss := by
  rw [boundK_bsum ss c _ (Nat.le_refl _), List.take_length]
theorem bound_rot (ss : List Strat) (t c : Nat) (ht : t ≤ ss.length) : boundK (rotL t ss) c ss.length = boundK ss c ss.length := by
  have h := bound_all (rotL t ss) c
  rw [rotL_len ht] at h
  rw [h, bound_all]
  unfold rotL
  rw [bsum_append, addP_comm, ← bsum_append, List.take_append_drop]

def gsum (c : Nat) : List (Strat × List Int) → Int
  | [] => 0
  | x :: l => getI x.1.coins (x.2[c]?.getD 0) (sumL x.2) + gsum c l
theorem gsum_append (c : Nat) (a b : List (Strat × List Int)) : gsum c (a ++ b) = gsum c a + gsum c b := by
  induction a with
  | nil => simp [gsum]
  | cons x a ih => simp [gsum, ih, Int.add_assoc]
theorem gK_gsum {ss : List Strat} {ll : List (List Int)} (hl : ll.length = ss.length) (c : Nat) : ∀ k, k ≤ ss.length → gK ss ll c k = gsum c ((ss.zip ll).take k)
  | 0, _ => by simp [gK, gsum]
  | k + 1, hk => by
    have hs := List.getElem?_eq_getElem (l := ss) (i := k) (by omega)
    have hll := List.getElem?_eq_getElem (l := ll) (i := k) (by omega)
    have hz : (ss.zip ll)[k]? = some (ss[k], ll[k]) := by
      rw [List.getElem?_zip_eq_some]
      exact ⟨hs, hll⟩
    rw [gK, gK_gsum hl c k (by omega), List.take_add_one, gsum_append, hz]
    simp [gsum, gI, hs, hll]
theorem g_all {ss : List Strat} {ll : List (List Int)} (hl : ll.length = ss.length) (c : Nat) : gK ss ll c ss.length = gsum c (ss.zip ll) := by
  rw [gK_gsum hl c _ (Nat.le_refl _), List.take_of_length_le (by simp; omega)]
theorem zip_rot {ss : List Strat} {ll : List (List Int)} (hl : ll.length = ss.length) (t : Nat) : (rotL t ss).zip (rotL t ll) = rotL t (ss.zip ll) := by
  unfold rotL
  rw [List.zip_append (by simp [hl])]
  simp [List.zip_eq_zipWith, List.drop_zipWith, List.take_zipWith]
theorem g_rot {ss : List Strat} {ll : List (List Int)} (hl : ll.length = ss.length) {t : Nat} (ht : t ≤ ss.length) (c : Nat) : gK (rotL t ss) (rotL t ll) c ss.length = gK ss ll c ss.length := by
  have h := g_all (ss := rotL t ss) (ll := rotL t ll) (by rw [rotL_len ht, rotL_len (by omega)]; exact hl) c
  rw [rotL_len ht] at h
  rw [h, g_all hl, zip_rot hl]
  unfold rotL
  rw [gsum_append, Int.add_comm, ← gsum_append, List.take_append_drop]
theorem gets_rot {m : Nat} {ss : List Strat} {ll : List (List Int)} (hl : ll.length = ss.length) {t : Nat} (ht : t ≤ ss.length) : getsL m (rotL t ss) (rotL t ll) = getsL m ss ll := by
  unfold getsL
  rw [rotL_len ht]
  exact List.map_congr_left fun c _ => g_rot hl ht c

def csum : List Strat → Int
  | [] => 0
  | s :: ss => s.coins + csum ss
theorem csum_append (a b : List Strat) : csum (a ++ b) = csum a + csum b := by
  induction a with
  | nil => simp [csum]
  | cons x a ih => simp [csum, ih, Int.add_assoc]
theorem sK_csum (ss : List Strat) : ∀ k, k ≤ ss.length → sK ss k = csum (ss.take k)
  | 0, _ => by simp [sK, csum]
  | k + 1, hk => by
    have hs := List.getElem?_eq_getElem (l := ss) (i := k) (by omega)
    rw [sK, sK_csum ss k (by omega), List.take_add_one, csum_append, hs]
    simp [csum]
theorem s_rot (ss : List Strat) {t : Nat} (ht : t ≤ ss.length) : sK (rotL t ss) ss.length = sK ss ss.length := by
  have h := sK_csum (rotL t ss) (rotL t ss).length (Nat.le_refl _)
  rw [List.take_length, rotL_len ht] at h
  rw [h, sK_csum ss _ (Nat.le_refl _), List.take_length]
  unfold rotL
  rw [csum_append, Int.add_comm, ← csum_append, List.take_append_drop]
theorem fund_rot {m : Nat} {ss : List Strat} {ll : List (List Int)} (hl : ll.length = ss.length) {t : Nat} (ht : t ≤ ss.length) : fundI m (rotL t ss) (rotL t ll) = fundI m ss ll := by
  unfold fundI
  rw [fK_eq, fK_eq, rotL_len ht, s_rot ss ht]
  have : ∀ j, tK (rotL t ss) (rotL t ll) ss.length j = tK ss ll ss.length j := by
    intro j
    induction j with
    | zero => rfl
    | succ j ih => rw [tK, tK, ih, g_rot hl ht]
  rw [this]

theorem fault_of {n : Int} {ss : List Strat} (h8 : ss.length ≤ 8) (h1 : 1 ≤ n) (h5 : n ≤ 5) (h : ∀ s ∈ ss, stratB n s = true) : faultI n ss = 0 :=
  fault_ok (by omega) (inB_iff.2 ⟨h1, h5⟩) fun j s _ hs => h s (List.mem_of_getElem? hs)
theorem fault_mem {n : Int} {ss : List Strat} (hf : faultI n ss = 0) : ∀ s ∈ ss, stratB n s = true := fun s hs => by
  obtain ⟨j, hj, rfl⟩ := List.getElem_of_mem hs
  exact (fault_zero hf).2.2.2 j _ (List.getElem?_eq_getElem hj)
theorem fault_rot {n : Int} {ss : List Strat} (hf : faultI n ss = 0) {t : Nat} (ht : t ≤ ss.length) : faultI n (rotL t ss) = 0 := by
  obtain ⟨a, b, c, d⟩ := fault_zero hf
  exact fault_of (by rw [rotL_len ht]; exact a) b c fun s hs => fault_mem hf s (rotL_mem hs)
theorem truth_rot {n : Int} {ss : List Strat} {ll : List (List Int)} (hf : faultI n ss = 0) (h : truthB n ss ll = true) {t : Nat} (ht : t < ss.length) : truthB n (rotL t ss) (rotL t ll) = true := by
  have hl : ll.length = ss.length := by
    simp only [truthB, Bool.and_eq_true] at h
    exact (fit_of hf h.1).len
  refine truth_of (fault_rot hf (by omega)) (by rw [rotL_len (by omega), rotL_len (by omega)]; exact hl) fun k s l hs hk => ?_
  have hkl : k < ss.length := by
    have := (List.getElem?_eq_some_iff.1 hs).1
    rwa [rotL_len (by omega)] at this
  rw [rotL_at ht hkl] at hs
  rw [rotL_at (by omega) (by omega), hl] at hk
  obtain ⟨l', hl', hp⟩ := truth_part hf h hs
  rw [hk] at hl'
  cases hl'
  exact hp

/-- A stratum with its companies in another order. -/
def turnS (c : Nat) (s : Strat) : Strat := { s with seen := rotL c s.seen }
theorem turn_strat {n : Int} {s : Strat} {c : Nat} (hs : stratB n s = true) (hc : c ≤ s.seen.length) : stratB n (turnS c s) = true := by
  obtain ⟨h1, h2, h3, h4, h5, h6, h7⟩ := stratB_iff.1 hs
  refine stratB_iff.2 ⟨h1, h2, h3, h4, ?_, fun j x hx => ?_, ?_⟩
  · simp only [turnS]; rw [rotL_len hc]; exact h5
  · have := rotL_mem (List.mem_of_getElem? hx)
    obtain ⟨i, hi, rfl⟩ := List.getElem_of_mem this
    exact h6 i _ (List.getElem?_eq_getElem hi)
  · simp only [turnS]; rw [sumL_rot]; exact h7
theorem turn_fault {n : Int} {ss : List Strat} {c : Nat} (hf : faultI n ss = 0) (hc : (c : Int) < n) : faultI n (ss.map (turnS c)) = 0 := by
  obtain ⟨a, b, c', d⟩ := fault_zero hf
  refine fault_of (by simpa using a) b c' fun s hs => ?_
  obtain ⟨s', hs', rfl⟩ := List.mem_map.1 hs
  have hv := fault_mem hf s' hs'
  have := (stratB_iff.1 hv).2.2.2.2.1
  exact turn_strat hv (by omega)
theorem turn_range {n : Nat} {s : Strat} {c k : Nat} (hs : stratB n s = true) (hc : c < n) (hk : k < n) : rangeAt (turnS c s) k = rangeAt s ((k + c) % n) := by
  have hl := (stratB_iff.1 hs).2.2.2.2.1
  have hl' : s.seen.length = n := by omega
  unfold rangeAt
  have e1 : (turnS c s).seen = rotL c s.seen := rfl
  have e2 : (turnS c s).coins = s.coins := rfl
  have e3 : (turnS c s).lo = s.lo := rfl
  have e4 : (turnS c s).hi = s.hi := rfl
  rw [e1, e2, e3, e4, rotL_len (by omega), sumL_rot, rotL_at (by omega) (by omega), hl']
theorem turn_bound {n : Nat} {ss : List Strat} {c k : Nat} (hf : faultI n ss = 0) (hc : c < n) (hk : k < n) : ∀ i, i ≤ ss.length → boundK (ss.map (turnS c)) k i = boundK ss ((k + c) % n) i
  | 0, _ => rfl
  | i + 1, hi => by
    have hs := List.getElem?_eq_getElem (l := ss) (i := i) (by omega)
    have hs' : (ss.map (turnS c))[i]? = some (turnS c ss[i]) := by simp [hs]
    rw [boundK, boundK, turn_bound hf hc hk i (by omega), hs, hs', Option.getD_some, Option.getD_some, turn_range ((fault_zero hf).2.2.2 i _ hs) hc hk]
end Go.Proofs.Ytobeffjdfhkjeaa
