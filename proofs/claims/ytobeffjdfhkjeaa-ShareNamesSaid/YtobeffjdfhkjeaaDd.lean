import Derived.Test.YtobeffjdfhkjeaaDc
set_option linter.unusedVariables false
set_option linter.unusedSimpArgs false
namespace Go.Proofs.Ytobeffjdfhkjeaa
open Go Go.Proofs Go.RowKit

/-- The row of what is left: each company and its rest. -/
def rowR (n : Nat) (r : Nat → Int) : List Value := (List.range (n * 2)).map fun j => if j % 2 = 0 then .int .i64 ((j / 2 : Nat) : Int) else .int .i64 (r (j / 2))
theorem rowR_length (n : Nat) (r : Nat → Int) : (rowR n r).length = n * 2 := by simp [rowR]
theorem rowR_succ (n : Nat) (r : Nat → Int) : rowR (n + 1) r = rowR n r ++ [.int .i64 (n : Int), .int .i64 (r n)] := by
  unfold rowR
  rw [show (n + 1) * 2 = n * 2 + 1 + 1 by omega, List.range_succ, List.range_succ]
  simp only [List.map_append, List.map_cons, List.map_nil, List.append_assoc, List.cons_append, List.nil_append]
  rw [if_pos (by omega), if_neg (by omega), show n * 2 / 2 = n by omega, show (n * 2 + 1) / 2 = n by omega]
theorem rowR_get {n j : Nat} {r : Nat → Int} (h : j < n * 2) : (rowR n r)[j]? = some (if j % 2 = 0 then .int .i64 ((j / 2 : Nat) : Int) else .int .i64 (r (j / 2))) := by simp [rowR, h]

def restOf (r : Nat → Int) (c : Nat) : Rest := (⟨c % 8, by omega⟩, ⟨(r c).toNat % 10000000, by omega⟩)
def restArr (n : Nat) (r : Nat → Int) : Array Rest := ((List.range n).map (restOf r)).toArray
theorem restArr_size (n : Nat) (r : Nat → Int) : (restArr n r).size = n := by simp [restArr]
theorem restArr_get {n c : Nat} {r : Nat → Int} (h : c < n) : (restArr n r)[c]! = restOf r c := by
  rw [getElem!_pos _ c (by rw [restArr_size]; exact h)]
  simp [restArr]

theorem sort_grown (w : World) (g n : Nat) (d : Array Rest) (os : Array Obj) : w.grownBy (sortWorldK encRest 2 w g 0 n d os) (some g) := by
  refine ⟨rfl, rfl, rfl, ?_, fun k hk hne => ?_⟩
  · simp [sortWorldK, Go.Sort.grow, Go.Sort.putRowK, Go.Sort.putRow, Go.Sort.mapBlock, Go.Sort.ahead]
  · have hne' : g ≠ k := fun e => hne (by rw [e])
    show ((w.heap.modify g _) ++ os)[k]? = _
    rw [Array.getElem?_append_left (by rw [Array.size_modify]; exact hk), Array.getElem?_modify, if_neg hne']

set_option maxHeartbeats 1000000 in
theorem sortRest_any (r : Nat → Int) (n g c base : Nat) (w : World) (hn : n ≤ 5) (hr : ∀ c, c < n → 0 ≤ r c ∧ r c < 10000000) (ho : w.ownsRow base 108 2 (.slice (some ⟨g, 0, none⟩) n c) n (rowR n r)) :
    Calls Try.prog 72 #[.slice (some ⟨g, 0, none⟩) n c, .func (.func 73) #[] #[]] w fun e w' => e = .returned (.tuple #[]) ∧ ∃ o, Ordered r n o ∧ w.grownBy w' (some g) ∧ ∀ (i x : Nat), o[i]? = some x → w'.cell? ⟨g, i * 2, none⟩ = some (.int .i64 (x : Int)) := by
  have eg : ∀ args w, (callFunc 73 args).run Try.prog w = .ok (.enter 73 args) w := enters_of Try.func73 (by kernel_rfl) rfl
  have hg : g < w.heap.size := (ho.lt g rfl).2
  have hH : Go.Sort.HoldsK encRest 2 w g 0 (restArr n r) := by
    intro j hj
    rw [Go.Sort.size_flatK, restArr_size] at hj
    have h1 := ho.cellAt j (by omega)
    rw [rowR_get hj] at h1
    refine ⟨?_, by simpa using ho.frozenAt j⟩
    rw [Nat.zero_add, h1, Go.Sort.get_flatK _ _ _ _ (by rw [restArr_size]; exact hj), restArr_get (by omega)]
    have hrj := hr (j / 2) (by omega)
    rcases Nat.mod_two_eq_zero_or_one j with e | e
    · simp only [e, if_true, encRest, restOf, id]
      rw [Nat.mod_eq_of_lt (by omega)]
      rfl
    · simp only [e, encRest, restOf, id]
      rw [Nat.mod_eq_of_lt (a := (r (j / 2)).toNat) (by omega), if_neg (by omega), Int.toNat_of_nonneg hrj.1]
      rfl
  have hcon := AnyQ.slices_SortFunc Try.sortRest 2 Try.isAgg108 Try.sizeOf108 encRest (fun _ => rfl) (fun x v hv => by simp [encRest] at hv; rcases hv with rfl | rfl <;> rfl) cmpRest swoRest 73 #[] g 0 c (restArr n r) w eg (cmpRest_lays g 0 _ w) hH hg (by rw [restArr_size]; omega)
  rw [restArr_size] at hcon
  change Calls Try.prog 72 _ _ _ at hcon
  refine hcon.mono ?_
  rintro e w' ⟨rfl, d', m, os, ⟨hs, _, hp⟩, hsort, rfl⟩
  rw [restArr_size] at hs
  have hp' : d'.toList.Perm (restArr n r).toList := by
    rw [Array.extract_eq_self_of_le (by omega), Array.extract_eq_self_of_le (by rw [restArr_size]; omega)] at hp
    exact hp
  have hin : ∀ i, i < n → ∃ x, x < n ∧ d'[i]! = restOf r x := fun i hi => by
    have : d'[i]! ∈ (restArr n r).toList := hp'.mem_iff.1 (by
      rw [getElem!_pos _ i (by omega)]
      exact Array.getElem_mem_toList _)
    simp only [restArr, List.mem_map, List.mem_range] at this
    obtain ⟨x, hx, e⟩ := this
    exact ⟨x, hx, e.symm⟩
  have hval : ∀ x, x < n → (restOf r x).1.val = x := fun x hx => Nat.mod_eq_of_lt (by omega)
  have hval2 : ∀ x, x < n → ((restOf r x).2.val : Int) = r x := fun x hx => by
    have := hr x hx
    show (((r x).toNat % 10000000 : Nat) : Int) = _
    rw [Nat.mod_eq_of_lt (by omega)]
    omega
  have hperm : (d'.toList.map fun x => x.1.val).Perm (List.range n) := by
    refine (hp'.map _).trans ?_
    have : (restArr n r).toList.map (fun x => x.1.val) = List.range n := by
      simp only [restArr, List.map_map]
      apply List.ext_getElem (by simp)
      intro i h1 h2
      simp at h2
      simp [hval i h2]
    rw [this]
  refine ⟨rfl, d'.toList.map fun x => x.1.val, ⟨hperm, ?_⟩, sort_grown w g m d' os, fun i x hx => ?_⟩
  · have hnd := hperm.nodup_iff.2 List.nodup_range
    rw [List.pairwise_iff_getElem]
    intro i j hi hj hij
    simp only [List.length_map, Array.length_toList, hs] at hi hj
    obtain ⟨x, hx, ex⟩ := hin i hi
    obtain ⟨y, hy, ey⟩ := hin j hj
    have hlt := hsort i j (by omega) hij hj
    rw [ex, ey, ltRest] at hlt
    have gi : (d'.toList.map fun x => x.1.val)[i]'(by simp; omega) = x := by
      rw [List.getElem_map, Array.getElem_toList, ← getElem!_pos d' i (by omega), ex, hval x hx]
    have gj : (d'.toList.map fun x => x.1.val)[j]'(by simp; omega) = y := by
      rw [List.getElem_map, Array.getElem_toList, ← getElem!_pos d' j (by omega), ey, hval y hy]
    have hxy : x ≠ y := fun e => by
      have := (List.getElem_inj hnd).1 (gi.trans (e.trans gj.symm))
      omega
    rw [gi, gj]
    have hb : bf r y x = false := by
      have e1 := hval x hx
      have e2 := hval y hy
      have e3 := hval2 x hx
      have e4 := hval2 y hy
      simp only [bf, Bool.or_eq_false_iff, Bool.and_eq_false_iff, decide_eq_false_iff_not] at hlt ⊢
      omega
    rcases bf_total (r := r) hxy with h | h
    · exact h
    · rw [h] at hb; cases hb
  · have hl := (List.getElem?_eq_some_iff.1 hx).1
    simp only [List.length_map, Array.length_toList, hs] at hl
    have hw : Go.Sort.HoldsK encRest 2 (sortWorldK encRest 2 w g 0 m d' os) g 0 d' := SWK.holds ⟨m, os, rfl⟩ hg hH (by rw [restArr_size]; exact hs)
    have hc := (hw (i * 2) (by rw [Go.Sort.size_flatK]; omega)).1
    rw [Nat.zero_add, Go.Sort.get_flatK _ _ _ _ (by omega), show i * 2 / 2 = i by omega, show i * 2 % 2 = 0 by omega] at hc
    rw [hc]
    rw [List.getElem?_map, Array.getElem?_toList, Array.getElem?_eq_getElem (by omega)] at hx
    simp only [Option.map_some, Option.some.injEq] at hx
    rw [getElem!_pos d' i (by omega)]
    simp [encRest, hx]
end Go.Proofs.Ytobeffjdfhkjeaa
