import Derived.Test.YtmbkpfkkohpnkaaRo
import Derived.Laws.StructEq
set_option linter.unusedVariables false
set_option linter.unusedSimpArgs false
namespace Go.Proofs.Ytmbkpfkkohpnkaa
open Go Go.Proofs Go.RowKit

/-! ### Rides, sorted -/
instance : Inhabited Rd := ⟨⟨0, 0, 0, 0⟩⟩
theorem sort_grown {α : Type} [Inhabited α] (enc : α → List Value) (n : Nat) (w : World) (g m : Nat) (d : Array α) (os : Array Obj) : w.grownBy (sortWorldK enc n w g 0 m d os) (some g) := by
  refine ⟨rfl, rfl, rfl, ?_, fun k hk hne => ?_⟩
  · simp [sortWorldK, Go.Sort.grow, Go.Sort.putRowK, Go.Sort.putRow, Go.Sort.mapBlock, Go.Sort.ahead]
  · have hne' : g ≠ k := fun e => hne (by rw [e])
    show ((w.heap.modify g _) ++ os)[k]? = _
    rw [Array.getElem?_append_left (by rw [Array.size_modify]; exact hk), Array.getElem?_modify, if_neg hne']
/-- The row in block g holds these rides, and may be written. -/
def RowF (w : World) (g : Nat) (l : List Rd) : Prop := ∀ (k j : Nat) (r : Rd) (u : Value), l[k]? = some r → (rdC r)[j]? = some u → w.cell? ⟨g, k * 4 + j, none⟩ = some u ∧ w.frozen? ⟨g, k * 4 + j, none⟩ = false
set_option maxHeartbeats 1000000 in
theorem sortRd_any (g c base : Nat) (l : List Rd) (w : World) (hne : l ≠ []) (hlen : l.length ≤ 1000000) (ho : w.ownsRow base 70 4 (.slice (some ⟨g, 0, none⟩) l.length c) l.length (l.flatMap rdC)) :
    Calls Try.prog 98 #[.slice (some ⟨g, 0, none⟩) l.length c, .func (.func 99) #[] #[]] w fun e w' => e = .returned (.tuple #[]) ∧ w.grownBy w' (some g) ∧
      ∃ L : List Rd, L.Perm l ∧ (∀ (i j : Nat) (r s : Rd), i < j → L[i]? = some r → L[j]? = some s → befR s r = false) ∧ RowF w' g L := by
  have hp0 : 0 < l.length := List.length_pos_iff.2 hne
  have eg : ∀ args w, (callFunc 99 args).run Try.prog w = .ok (.enter 99 args) w := enters_of Try.func99 (by kernel_rfl) rfl
  have hg : g < w.heap.size := (ho.lt g rfl).2
  have hsz : l.toArray.size = l.length := by simp
  have hH : Go.Sort.HoldsK rdC 4 w g 0 l.toArray := by
    intro j hj
    rw [Go.Sort.size_flatK, hsz] at hj
    have h1 := ho.cellAt j (by omega)
    refine ⟨?_, by simpa using ho.frozenAt j⟩
    rw [Nat.zero_add, h1, Go.Sort.get_flatK _ _ _ _ (by rw [hsz]; exact hj)]
    have hj4 : j / 4 < l.length := by omega
    have h2 := flat_get (f := rdC) (n := 4) (fun _ => rfl) (l := l) (k := j / 4) (j := j % 4) (List.getElem?_eq_getElem hj4) (Nat.mod_lt _ (by omega))
    rw [show j / 4 * 4 + j % 4 = j by omega] at h2
    rw [h2, getElem!_pos l.toArray (j / 4) (by rw [hsz]; exact hj4)]
    have hl : j % 4 < (rdC l[j / 4]).length := Nat.mod_lt _ (by omega)
    rw [List.getElem?_eq_getElem hl]
    simp [hl]
  have hcmp : CmpLays Try.prog 99 #[] rdC 4 cmpRd g 0 l.toArray.size w := fun m os dk _ x y => cmp_calls x y _
  have hcon := AnyQ.slices_SortFunc Try.sortRd 4 Try.isAgg70 Try.sizeOf70 rdC (fun _ => rfl) (fun x v hv => by simp [rdC] at hv; rcases hv with rfl | rfl | rfl | rfl <;> rfl) cmpRd swoRd 99 #[] g 0 c l.toArray w eg hcmp hH hg (by rw [hsz]; omega)
  rw [hsz] at hcon
  change Calls Try.prog 98 _ _ _ at hcon
  refine hcon.mono ?_
  rintro e w' ⟨rfl, d', m, os, ⟨hs, _, hpm⟩, hsort, rfl⟩
  rw [hsz] at hs
  have hp' : d'.toList.Perm l := by
    rw [Array.extract_eq_self_of_le (by omega), Array.extract_eq_self_of_le (by rw [hsz]; omega)] at hpm
    simpa using hpm
  refine ⟨rfl, sort_grown rdC 4 w g m d' os, d'.toList, hp', fun i j r s hij hr hs' => ?_, fun k j r u hk hu => ?_⟩
  · have hi' : i < d'.size := by have := (List.getElem?_eq_some_iff.1 hr).1; simpa using this
    have hj' : j < d'.size := by have := (List.getElem?_eq_some_iff.1 hs').1; simpa using this
    have hlt := hsort i j (by omega) hij (by omega)
    rw [ltRd, getElem!_pos d' i hi', getElem!_pos d' j hj'] at hlt
    rw [Array.getElem?_toList, Array.getElem?_eq_getElem hi'] at hr
    rw [Array.getElem?_toList, Array.getElem?_eq_getElem hj'] at hs'
    cases hr
    cases hs'
    exact hlt
  · rw [Array.getElem?_toList] at hk
    have hkd : k < d'.size := by
      rcases Nat.lt_or_ge k d'.size with h | h
      · exact h
      · rw [Array.getElem?_eq_none h] at hk; cases hk
    rw [Array.getElem?_eq_getElem hkd, Option.some.injEq] at hk
    subst hk
    have hj : j < 4 := (List.getElem?_eq_some_iff.1 hu).1
    have hw : Go.Sort.HoldsK rdC 4 (sortWorldK rdC 4 w g 0 m d' os) g 0 d' := SWK.holds ⟨m, os, rfl⟩ hg hH (by rw [hsz]; exact hs)
    obtain ⟨hc, hf⟩ := hw (k * 4 + j) (by rw [Go.Sort.size_flatK]; omega)
    rw [Nat.zero_add, Go.Sort.get_flatK _ _ _ _ (by omega), show (k * 4 + j) / 4 = k by omega, show (k * 4 + j) % 4 = j by omega, getElem!_pos d' k hkd] at hc
    simp only [id] at hc
    refine ⟨?_, by simpa using hf⟩
    rw [hc, ← hu]
    have hl : j < (rdC d'[k]).length := hj
    rw [List.getElem?_eq_getElem hl]
    simp [hl]
/-! nothing to sort -/
set_option maxRecDepth 100000 in
theorem ins_nil (v f : Value) (w : World) : Calls Try.prog 114 #[v, .int .i64 0, .int .i64 0, f] w (Same w (.tuple #[])) := by
  go_enter Try.func114, Try.ntmps114
  go_wp2
  go_loop [8] (fun i => i = .int .i64 1) (fun i => 0)
  case atStart => rfl
  case round =>
    subst hrel
    go_wp2
    (try simp only [Exit.inBlock, Exit.then]); first | refine bodyPost_end (results_none rfl _ _ _) rfl ?_ | refine bodyPost_ret (results_none rfl _ _ _) rfl ?_
    exact ⟨rfl, rfl⟩
set_option maxRecDepth 100000 in
theorem pdq_nil (v f : Value) (n : Int) (w : World) : Calls Try.prog 110 #[v, .int .i64 0, .int .i64 0, .int .i64 n, f] w (Same w (.tuple #[])) := by
  go_enter Try.func110, Try.ntmps110
  go_wp2
  go_loop [1, 2] (fun i j => i = .int .i64 0 ∧ j = .int .i64 0) (fun i j => 0)
  case atStart => exact ⟨rfl, rfl⟩
  case round =>
    obtain ⟨rfl, rfl⟩ := hrel
    go_wp2_with (go_at_call 114; refine (ins_nil _ _ _).mono ?_; rintro e w1 ⟨rfl, rfl⟩)
    (try simp only [Exit.inBlock, Exit.then]); first | refine bodyPost_end (results_none rfl _ _ _) rfl ?_ | refine bodyPost_ret (results_none rfl _ _ _) rfl ?_
    exact ⟨rfl, rfl⟩
set_option maxRecDepth 100000 in
theorem len64_zero (w : World) : Calls Try.prog 123 #[.int .u64 0] w (Same w (.int .i64 0)) := by
  go_enter Try.func123, Try.ntmps123
  go_wp2
  go_ret
  have e : Lib.len8 0 = 0 := by decide +kernel
  refine ⟨?_, rfl⟩
  have e2 : wrap64 0 = 0 := by decide +kernel
  simp only [e, e2]
  rfl
set_option maxRecDepth 100000 in
theorem len_zero (w : World) : Calls Try.prog 111 #[.int .u64 0] w (Same w (.int .i64 0)) := by
  go_enter Try.func111, Try.ntmps111
  go_wp2_with (go_at_call 123; refine (len64_zero _).mono ?_; rintro e w1 ⟨rfl, rfl⟩)
  go_ret
  exact ⟨rfl, rfl⟩
set_option maxRecDepth 100000 in
theorem sort_nil (A : Option Addr) (c : Nat) (f : Value) (w : World) : Calls Try.prog 98 #[.slice A 0 c, f] w (Same w (.tuple #[])) := by
  go_enter Try.func98, Try.ntmps98
  go_wp2_with (first
    | (go_at_call 111; refine (len_zero _).mono ?_; rintro e w1 ⟨rfl, rfl⟩)
    | (go_at_call 110; refine (pdq_nil _ _ _ _).mono ?_; rintro e w1 ⟨rfl, rfl⟩))
  (try simp only [Exit.inBlock, Exit.then]); first | refine bodyPost_end (results_none rfl _ _ _) rfl ?_ | refine bodyPost_ret (results_none rfl _ _ _) rfl ?_
  exact ⟨rfl, rfl⟩
end Go.Proofs.Ytmbkpfkkohpnkaa
