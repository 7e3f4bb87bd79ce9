import Derived.Test.YtllobkhdeahgpaaGreatE4
set_option linter.unusedVariables false
set_option linter.unusedSimpArgs false
namespace Go.Proofs.YtllobkhdeahgpaaGreat
open Go Go.Proofs Go.RowKit

/-! ### ordered -/
def pairOk (a b : List Int) : Bool := !b.isEmpty && (!a.isEmpty && !decide (b.headD 0 < a.headD 0))
def orderedB (ll : List (List Int)) : Bool := (List.range (ll.length - 1)).all fun i => pairOk (ll[i]?.getD []) (ll[i + 1]?.getD [])
theorem ordered_no {ll : List (List Int)} {i : Nat} {a b : List Int} (ha : ll[i]? = some a) (hb : ll[i + 1]? = some b) (h : pairOk a b = false) : orderedB ll = false := by
  unfold orderedB
  have := (List.getElem?_eq_some_iff.1 hb).1
  refine List.all_eq_false.2 ⟨i, List.mem_range.2 (by omega), ?_⟩
  rw [ha, hb]
  simp [h]
theorem head_get {l : List Int} {x : Int} (h : l[0]? = some x) : l.headD 0 = x ∧ l.isEmpty = false := by
  cases l with
  | nil => simp at h
  | cons a t => simp at h; simp [h]
set_option maxRecDepth 100000 in
set_option maxHeartbeats 1600000 in
theorem ordered_any (v : Value) (ll : List (List Int)) (w : World) (hv : RowsAt w v ll) (hl : ll.length ≤ 1000) : Calls Tryz.prog 33 #[v] w (Gives w (.bool (orderedB ll))) := by
  obtain ⟨A, c, rfl, hc, hm⟩ := hv.form
  have Hv := Lib.hid hv
  clear hv
  go_enter Tryz.func33, Tryz.ntmps33
  go_wp2
  go_loopw [3] (fun i wr => ∃ k : Nat, i = .int .i64 ((k : Int) + 1) ∧ k ≤ ll.length ∧ Below w.heap.size w wr ∧ ∀ j, j < k → j + 1 < ll.length → pairOk (ll[j]?.getD []) (ll[j + 1]?.getD []) = true) (fun i wr => ll.length - (intOf i).toNat)
  case atStart => exact ⟨0, rfl, by omega, Below.refl _ _, by intro j h; omega⟩
  case round =>
    obtain ⟨k, rfl, hk, hb, hall⟩ := hrel
    obtain ⟨wo, rfl⟩ : ∃ wo : World, wo = wr := ⟨_, rfl⟩
    have Hall := Lib.hid hall
    clear hall
    by_cases hlt : k + 1 < ll.length
    · obtain ⟨p, o, b, y, rfl, hlb, cb, hnb, _⟩ := (Hv.out.below hb).at_ (k := k + 1) hlt
      obtain ⟨p', o', a, y', e', hla, ca, hna, _⟩ := (Hv.out.below hb).at_ (k := k) (by omega)
      cases e'
      have k1 : IntKind.i64.wrap ((k : Int) + 1 - 1) = (k : Int) := by rw [IntWalk.i64_in _ (by omega)]; omega
      have k2 : (k : Int) + 1 - 1 = (k : Int) := by omega
      have k3 : (k : Int) + 1 < (ll.length : Int) := by omega
      have k4 : (k : Int) < (ll.length : Int) := by omega
      have k5 : ((k : Int) + 1).toNat = k + 1 := by omega
      have Hno := Lib.hid (fun h => ordered_no hla hlb h)
      have Hla := Lib.hid hla
      have Hlb := Lib.hid hlb
      obtain ⟨AB, cB, rfl, hAB, hAB2⟩ := hnb.form
      obtain ⟨AC, cC, rfl, hAC, hAC2⟩ := hna.form
      have f1 := Later.cell cb
      have f2 := Later.cell ca
      clear hla hlb
      by_cases h1 : b.length = 0
      · have q1 : ((b.length : Int) == 0) = true := by simp [h1]
        have Hf := Lib.hid (Hno.out (by unfold pairOk; rw [List.eq_nil_of_length_eq_zero h1]; rfl))
        clear h1
        go_wp2_with fail
        refine wp_region_later (by kernel_rfl) (by kernel_rfl) ?_
        repeat (go_big_quiet_step (fail))
        refine wpQuiet_nil ?_
        intro w2 hx2
        have hb2 := Later.out hx2
        clear hx2 f1 f2
        go_wp2
        go_ret
        exact gives_bool Hf.out.symm (hb.trans (hb2.mono hb.size))
      · have q1 : ((b.length : Int) == 0) = false := by rw [Bool.eq_false_iff]; simp only [ne_eq, beq_iff_eq]; omega
        by_cases h2 : a.length = 0
        · have q2 : ((a.length : Int) == 0) = true := by simp [h2]
          have Hf := Lib.hid (Hno.out (by unfold pairOk; rw [List.eq_nil_of_length_eq_zero h2]; simp))
          clear h1 h2
          go_wp2_with fail
          refine wp_region_later (by kernel_rfl) (by kernel_rfl) ?_
          repeat (go_big_quiet_step (fail))
          refine wpQuiet_nil ?_
          intro w2 hx2
          have hb2 := Later.out hx2
          clear hx2 f1 f2
          go_wp2
          go_ret
          exact gives_bool Hf.out.symm (hb.trans (hb2.mono hb.size))
        · have q2 : ((a.length : Int) == 0) = false := by rw [Bool.eq_false_iff]; simp only [ne_eq, beq_iff_eq]; omega
          obtain ⟨p3, o3, x, rfl, hx, cx, _⟩ := hnb.at_ (k := 0) (by omega)
          obtain ⟨p4, o4, t, rfl, ht, ct, _⟩ := hna.at_ (k := 0) (by omega)
          obtain ⟨e1, e2⟩ := head_get hx
          obtain ⟨e3, e4⟩ := head_get ht
          rw [Nat.add_zero] at cx ct
          have k6 : (0 : Int) < (b.length : Int) := by omega
          have k7 : (0 : Int) < (a.length : Int) := by omega
          have f3 := Later.cell cx
          have f4 := Later.cell ct
          have Hpk := Lib.hid (show pairOk a b = !decide (x < t) by unfold pairOk; rw [e1, e2, e3, e4]; rfl)
          clear hx ht e1 e2 e3 e4 h1 h2
          by_cases h3 : x < t
          · have Hf := Lib.hid (Hno.out (by rw [Hpk.out, decide_eq_true h3]; rfl))
            go_wp2_with fail
            refine wp_region_later (by kernel_rfl) (by kernel_rfl) ?_
            repeat (go_big_quiet_step (fail))
            refine wpQuiet_nil ?_
            intro w2 hx2
            have hb2 := Later.out hx2
            clear hx2 f1 f2 f3 f4
            go_wp2
            go_ret
            exact gives_bool Hf.out.symm (hb.trans (hb2.mono hb.size))
          · have q3 : decide (x < t) = false := decide_eq_false h3
            have Hok := Lib.hid (show pairOk a b = true by rw [Hpk.out, decide_eq_false h3]; rfl)
            go_wp2_with fail
            refine wp_region_later (by kernel_rfl) (by kernel_rfl) ?_
            repeat (go_big_quiet_step (fail))
            refine wpQuiet_nil ?_
            intro w2 hx2
            have hb2 := Later.out hx2
            clear hx2 f1 f2 f3 f4
            go_wp2
            go_roundw
            case rel =>
              refine ⟨k + 1, by push_cast; rfl, by omega, hb.trans (hb2.mono hb.size), fun j hj hj2 => ?_⟩
              by_cases e : j = k
              · subst e
                rw [Hla.out, Hlb.out]
                exact Hok.out
              · exact Hall.out j (by omega) hj2
            case measure => simp [intOf]; omega
    · have Hf := Lib.hid (show orderedB ll = true from List.all_eq_true.2 fun i hi => Hall.out i (by have := List.mem_range.1 hi; omega) (by have := List.mem_range.1 hi; omega))
      have k3 : ¬ (k : Int) + 1 < (ll.length : Int) := by omega
      go_wp2
      go_ret
      exact gives_bool Hf.out.symm hb
/-! ### Plans that are right -/
theorem natsI_all {plan : List (List Nat)} : (plan.map natsI).map natsOf = plan := by
  rw [List.map_map]
  conv => rhs; rw [← List.map_id plan]
  exact List.map_congr_left fun l _ => natsOf_natsI l
theorem prove_of_plan {d : DDay} (hf : (faultD d != 0) = false) {plan : List (List Nat)} (h : IsPlan d plan) : proveB d (plan.map natsI) = true := by
  unfold proveB
  rw [show (faultD d == 0) = true by simpa using hf, Bool.true_and]
  refine prove_plan.2 ⟨fun l hl => ?_, by rw [natsI_all]; exact h⟩
  obtain ⟨m, _, rfl⟩ := List.mem_map.1 hl
  rw [natsOf_natsI]
theorem plan_of_prove {d : DDay} {ll : List (List Int)} (h : proveB d ll = true) : IsPlan d (ll.map natsOf) ∧ ∀ l ∈ ll, l = natsI (natsOf l) := by
  unfold proveB at h
  rw [Bool.and_eq_true] at h
  have := prove_plan.1 h.2
  exact ⟨this.2, this.1⟩
theorem best_ordered {d : DDay} (hn : segN d.blocks ≤ 16) (hc : (bestV d).can = true) : orderedB ((bestP d).map natsI) = true := by
  have ho := best_order hn hc
  have hp := best_plan hn hc
  rw [List.pairwise_map, List.pairwise_iff_getElem] at ho
  refine List.all_eq_true.2 fun i hi => ?_
  have hi := List.mem_range.1 hi
  rw [List.length_map] at hi
  rw [List.getElem?_map, List.getElem?_map, List.getElem?_eq_getElem (by omega), List.getElem?_eq_getElem (by omega)]
  have h := ho i (i + 1) (by omega) (by omega) (by omega)
  have d1 := (hp.duty _ (List.getElem_mem (show i < (bestP d).length by omega))).some
  have d2 := (hp.duty _ (List.getElem_mem (show i + 1 < (bestP d).length by omega))).some
  simp only [Option.map_some, Option.getD_some]
  generalize (bestP d)[i] = a at *
  generalize (bestP d)[i + 1] = b at *
  cases a with
  | nil => exact absurd rfl d1
  | cons x t =>
    cases b with
    | nil => exact absurd rfl d2
    | cons y u =>
      simp only [List.headD_cons] at h
      simp [pairOk, natsI]
      omega
end Go.Proofs.YtllobkhdeahgpaaGreat
