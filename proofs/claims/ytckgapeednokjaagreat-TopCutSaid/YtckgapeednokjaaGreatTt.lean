import Derived.Test.YtckgapeednokjaaGreatTs
set_option linter.unusedVariables false
set_option linter.unusedSimpArgs false
namespace Go.Proofs.YtckgapeednokjaaGreat
open Go Go.Proofs Go.RowKit

/-! ### The day of blocks: its segments, a truth of it, who drives what -/
theorem rels_len (t : Tab) (b : List Nat) : (relsOf t b).length = b.length + 1 := by simp [relsOf]
theorem work_segs (t : Tab) : ∀ c : List (List Nat), segN (c.map (relsOf t)) = c.flatten.length
  | [] => rfl
  | b :: c => by
    rw [List.map_cons, segN, rels_len, work_segs t c]
    simp
def lastOf (b : List Nat) : Nat := b.getLast?.getD 0
theorem lastOf_idx {b : List Nat} (h : b ≠ []) : b[b.length - 1]? = some (lastOf b) := by
  have h1 := List.length_pos_iff.2 h
  unfold lastOf
  rw [List.getLast?_eq_getElem?, List.getElem?_eq_getElem (by omega)]
  rfl
def startsL (t : Tab) (b : List Nat) : List Int := b.map fun i => (tripAt t i).start
def minRow (t : Tab) (ts : List Int) (b : List Nat) : List Int := startsL t b ++ [(tripAt t (lastOf b)).start + ts[lastOf b]?.getD 0]
def minL (t : Tab) (ts : List Int) (c : List (List Nat)) : List (List Int) := c.map (minRow t ts)
theorem min_len (t : Tab) (ts : List Int) (b : List Nat) : (minRow t ts b).length = b.length + 1 := by simp [minRow, startsL]
theorem min_at {t : Tab} {ts : List Int} {b : List Nat} {i x : Nat} (h : b[i]? = some x) : (minRow t ts b)[i]? = some (tripAt t x).start := by
  have hi := (List.getElem?_eq_some_iff.1 h).1
  unfold minRow startsL
  rw [List.getElem?_append_left (by simpa using hi), List.getElem?_map, h]
  rfl
theorem rels_at {t : Tab} {b : List Nat} {i x : Nat} (h : b[i]? = some x) : (relsOf t b)[i]? = some (startR t x) := by
  have hi := (List.getElem?_eq_some_iff.1 h).1
  unfold relsOf
  rw [List.getElem?_append_left (by simpa using hi), List.getElem?_map, h]
  rfl
theorem min_end (t : Tab) (ts : List Int) (b : List Nat) : (minRow t ts b)[b.length]? = some ((tripAt t (lastOf b)).start + ts[lastOf b]?.getD 0) := by
  unfold minRow startsL
  rw [List.getElem?_append_right (by simp)]
  simp
theorem rels_end (t : Tab) (b : List Nat) : (relsOf t b)[b.length]? = some (endR t (lastOf b)) := by
  unfold relsOf
  rw [List.getElem?_append_right (by simp)]
  simp [lastOf]
theorem min_truth {t : Tab} {ts : List Int} {c : List (List Nat)} (ht : TabOk t) (hc : IsCut t.trips.length (May t) c) (hts : ∀ i, i < t.trips.length → (tripAt t i).least ≤ ts[i]?.getD 0 ∧ ts[i]?.getD 0 ≤ (tripAt t i).most) : truthB (c.map (relsOf t)) (minL t ts c) = true := by
  refine truth_all (by simp [minL]) fun k hk => ?_
  have hk' : k < c.length := by simpa [minL] using hk
  obtain ⟨b, hb⟩ : ∃ b, c[k]? = some b := ⟨_, List.getElem?_eq_getElem hk'⟩
  have hm := List.mem_of_getElem? hb
  have hne := hc.ne b hm
  have hlt : ∀ {i x : Nat}, b[i]? = some x → x < t.trips.length := fun h => hc.lt _ (List.mem_flatten.2 ⟨b, hm, List.mem_of_getElem? h⟩)
  unfold minL
  rw [List.getElem?_map, List.getElem?_map, hb]
  simp only [Option.map_some, Option.getD_some]
  refine row_all (by rw [min_len, rels_len]) fun i hi => ?_
  rw [min_len] at hi
  have hpos := List.length_pos_iff.2 hne
  by_cases hib : i < b.length
  · obtain ⟨x, hx⟩ : ∃ x, b[i]? = some x := ⟨_, List.getElem?_eq_getElem hib⟩
    cases i with
    | zero =>
      rw [cellT_first (min_at hx) (rels_at hx)]
      simp [startR, inB]
    | succ j =>
      obtain ⟨y, hy⟩ : ∃ y, b[j]? = some y := ⟨_, List.getElem?_eq_getElem (by omega)⟩
      rw [cellT_next (Nat.succ_pos _) (min_at hx) (min_at hy) (rels_at hx)]
      have h1 := may_grow ht (hlt hy) (hlt hx) (hc.may b hm j y x hy hx)
      have h2 : ¬ (tripAt t x).start < (tripAt t y).start := by omega
      rw [decide_eq_false h2]
      simp [startR, inB]
  · obtain rfl : i = b.length := by omega
    have hl := lastOf_idx hne
    have h1 := hts _ (hlt hl)
    have h2 := (ht.at_ (hlt hl)).least
    rw [cellT_next hpos (min_end t ts b) (min_at hl) (rels_end t b)]
    have h3 : ¬ (tripAt t (lastOf b)).start + ts[lastOf b]?.getD 0 < (tripAt t (lastOf b)).start := by omega
    rw [decide_eq_false h3]
    have h4 : (tripAt t (lastOf b)).start + (tripAt t (lastOf b)).least ≤ (tripAt t (lastOf b)).start + ts[lastOf b]?.getD 0 := by omega
    have h5 : (tripAt t (lastOf b)).start + ts[lastOf b]?.getD 0 ≤ (tripAt t (lastOf b)).start + (tripAt t (lastOf b)).most := by omega
    simp [endR, inB, h1.1, h1.2]

/-! Who drives what -/
def drvL (N : Nat) (X : List Nat) : List Int := (List.range N).map fun x => ((X.count x : Nat) : Int)
theorem drv_len (N : Nat) (X : List Nat) : (drvL N X).length = N := by simp [drvL]
theorem drv_get {N x : Nat} (X : List Nat) (h : x < N) : (drvL N X)[x]? = some ((X.count x : Nat) : Int) := by
  unfold drvL
  rw [List.getElem?_map, List.getElem?_range h]
  rfl
theorem drv_nil (N : Nat) : drvL N [] = List.replicate N 0 := by
  unfold drvL
  simp [List.map_const']
theorem drv_set {N x : Nat} (X : List Nat) (h : x < N) : (drvL N X).set x (((X.count x : Nat) : Int) + 1) = drvL N (X ++ [x]) := by
  refine List.ext_getElem? fun j => ?_
  rw [List.getElem?_set, drv_len]
  by_cases e : x = j
  · subst e
    rw [if_pos rfl, if_pos h, drv_get _ h]
    simp
  · rw [if_neg e]
    by_cases hj : j < N
    · rw [drv_get _ hj, drv_get _ hj]
      have : ¬ x = j := e
      simp [List.count_append, List.count_singleton, this]
    · rw [List.getElem?_eq_none (by rw [drv_len]; omega), List.getElem?_eq_none (by rw [drv_len]; omega)]
theorem count_plan (s : Nat) : ∀ (plan : List (List Nat)), (∀ l ∈ plan, l.Nodup) → plan.flatten.count s = plan.countP fun l => decide (s ∈ l)
  | [], _ => rfl
  | l :: p, h => by
    have h1 := count_plan s p fun m hm => h m (by simp [hm])
    have h2 := h l (by simp)
    rw [List.flatten_cons, List.count_append, h1, List.countP_cons, h2.count]
    by_cases e : s ∈ l
    · simp [e]; omega
    · simp [e]
theorem mem_all : ∀ (N : Nat) (L : List Nat), L.Nodup → (∀ x ∈ L, x < N) → N ≤ L.length → ∀ x, x < N → x ∈ L
  | 0, _, _, _, _, x, hx => by omega
  | N + 1, L, hn, hlt, hl, x, hx => by
    by_cases hN : N ∈ L
    · by_cases e : x = N
      · rw [e]; exact hN
      · have hn2 : (L.erase N).Nodup := hn.erase N
        have h3 := mem_all N (L.erase N) hn2 (fun y hy => by
          have h4 := hlt y (List.mem_of_mem_erase hy)
          have h5 : y ≠ N := fun e => by subst e; exact hn.not_mem_erase hy
          omega) (by rw [List.length_erase_of_mem hN]; omega) x (by omega)
        exact List.mem_of_mem_erase h3
    · have hlt2 : ∀ y ∈ L, y < N := fun y hy => by
        have h4 := hlt y hy
        have h5 : y ≠ N := fun e => by subst e; exact hN hy
        omega
      match L, hl, hn, hlt2 with
      | [], hl, _, _ => simp at hl
      | a :: M, hl, hn, hlt2 =>
        have hn2 := List.nodup_cons.1 hn
        have ha := mem_all N M hn2.2 (fun y hy => hlt2 y (by simp [hy])) (by simpa using hl) a (hlt2 a (by simp))
        exact absurd ha hn2.1
def tripOf (c : List (List Nat)) (s : Nat) : Nat := c.flatten[s]?.getD 0
theorem plan_once {d : DDay} {plan : List (List Nat)} {N : Nat} {M : Nat → Nat → Prop} {c : List (List Nat)} (hp : IsPlan d plan) (hn : segN d.blocks = c.flatten.length) (hc : IsCut N M c) {x : Nat} (hx : x < N) : (plan.flatten.map (tripOf c)).count x = 1 := by
  have hnd : ∀ l ∈ plan, l.Nodup := fun l hl => (hp.duty l hl).rise.imp fun h => Nat.ne_of_lt h
  have hperm : plan.flatten.Perm (List.range (segN d.blocks)) := List.perm_iff_count.2 fun s => by
    rw [count_plan s plan hnd, List.nodup_range.count]
    by_cases hs : s < segN d.blocks
    · rw [hp.once s hs, if_pos (List.mem_range.2 hs)]
    · rw [if_neg (by simpa using hs)]
      refine List.countP_eq_zero.2 fun l hl => ?_
      simp only [decide_eq_true_eq]
      exact fun h => hs ((hp.duty l hl).lt s h)
  have hmap : (List.range (segN d.blocks)).map (tripOf c) = c.flatten := by
    refine List.ext_getElem? fun j => ?_
    by_cases hj : j < c.flatten.length
    · rw [List.getElem?_map, List.getElem?_range (by omega)]
      show some (c.flatten[j]?.getD 0) = c.flatten[j]?
      rw [List.getElem?_eq_getElem hj]
      rfl
    · rw [List.getElem?_eq_none (by rw [List.length_map, List.length_range]; omega), List.getElem?_eq_none (by omega)]
  rw [(hperm.map (tripOf c)).count_eq, hmap, hc.once.count, if_pos]
  exact mem_all N _ hc.once hc.lt (by rw [hc.all]; omega) x hx
theorem drv_bound {d : DDay} {plan : List (List Nat)} {N : Nat} {M : Nat → Nat → Prop} {c : List (List Nat)} (hp : IsPlan d plan) (hn : segN d.blocks = c.flatten.length) (hc : IsCut N M c) {i k x : Nat} {l : List Nat} (hl : plan[i]? = some l) (hx : x < N) : (((plan.take i).flatten ++ l.take k).map (tripOf c)).count x ≤ 1 := by
  have h := plan_once hp hn hc hx
  have hs : ((plan.take i).flatten ++ l.take k).Sublist plan.flatten := by
    have e1 : plan.flatten = (plan.take (i + 1)).flatten ++ (plan.drop (i + 1)).flatten := by rw [← List.flatten_append, List.take_append_drop]
    rw [e1, take_flat hl, List.append_assoc]
    exact (List.Sublist.refl _).append ((List.take_sublist k l).trans (List.sublist_append_left _ _))
  rw [← h]
  exact (hs.map _).count_le x
theorem obeys_law {d : DDay} {tb te : Nat → Nat → Int} {ps : List Pc} (h : obeysB d tb te ps = true) : driveP tb te ps ≤ d.law.drive ∧ spreadP d tb te ps ≤ d.law.spread := by
  simp only [obeysB, Bool.and_eq_true, decide_eq_true_eq] at h
  exact ⟨h.2.2.1, h.2.2.2.2⟩
end Go.Proofs.YtckgapeednokjaaGreat
