import Derived.Test.YtobeffjdfhkjeaaPD
import Derived.Test.YtobeffjdfhkjeaaL
set_option linter.unusedVariables false
set_option linter.unusedSimpArgs false
namespace Go.Proofs.Ytobeffjdfhkjeaa
open Go Go.Proofs Go.RowKit

theorem all_inB (ws : List Int) (M : Int) : (ws.all fun x => inB x 0 M) = !decide (∃ x ∈ ws, ¬ (0 ≤ x ∧ x ≤ M)) := by
  rw [Bool.eq_iff_iff]
  simp only [List.all_eq_true, inB_iff, Bool.not_eq_true', decide_eq_false_iff_not]
  constructor
  · rintro h ⟨x, hx, hn⟩
    exact hn (h x hx)
  · intro h x hx
    exact Classical.byContradiction fun hn => h ⟨x, hx, hn⟩

theorem divOk_of {coins : Int} {ws : List Int} (h : divFault coins ws = 0) : DivOk coins ws := by
  unfold divFault at h
  split at h
  · omega
  · split at h
    · omega
    · split at h
      · omega
      · rename_i h1 h2 h3
        simp only [not_or] at h2
        refine ⟨by omega, fun x hx => Classical.byContradiction fun hn => h2.2 ⟨x, hx, hn⟩, Classical.not_not.1 h3⟩

set_option maxHeartbeats 1600000 in
theorem DivideFault_any (coins : Int) (v : Value) (ws : List Int) (w : World) (hv : NumsAt .i64 w v ws) :
    Calls Try.prog 50 #[.int .i64 coins, v] w (Gives w (.int .i64 (divFault coins ws))) := by
  obtain ⟨A, c, rfl, hc, hm⟩ := hv.form
  by_cases h5 : 5 < ws.length
  · have e : divFault coins ws = 3 := by simp [divFault, h5]
    rw [e]
    have h5I : (5 : Int) < (ws.length : Int) := by omega
    clear e h5
    go_enter Try.func50, Try.ntmps50
    go_wp2
    go_ret
    exact ⟨rfl, Below.refl _ _⟩
  · by_cases h0 : ws.length = 0
    · have e : divFault coins ws = 1 := by simp [divFault, h0]
      rw [e]
      have h0I : ((ws.length : Int) == 0) = true := by simp [h0]
      have h5I : (ws.length : Int) ≤ 5 := by omega
      clear e h0 h5
      go_enter Try.func50, Try.ntmps50
      go_wp2
      go_ret
      exact ⟨rfl, Below.refl _ _⟩
    · have e : divFault coins ws = if ∃ x ∈ ws, ¬ (0 ≤ x ∧ x ≤ 1000000) then 1 else if ¬ (0 ≤ coins ∧ coins ≤ 10000000) then 2 else 0 := by
        simp [divFault, h5, h0]
      have He := Lib.hid e
      have h0I : ((ws.length : Int) == 0) = false := beq_eq_false_iff_ne.2 (by omega)
      have h5I : (ws.length : Int) ≤ 5 := by omega
      clear e
      go_enter Try.func50, Try.ntmps50
      go_wp2
      go_loopw [5] (fun x wr => ∃ k : Nat, k ≤ ws.length ∧ x = .int .i64 k ∧ Below w.heap.size w wr ∧ ∀ (j : Nat) (y : Int), j < k → ws[j]? = some y → 0 ≤ y ∧ y ≤ 1000000) (fun x wr => ws.length - (intOf x).toNat)
      case atStart => exact ⟨0, by omega, rfl, Below.refl _ _, by intro j s h; omega⟩
      case round =>
        obtain ⟨k, hk, rfl, hbr, hall⟩ := hrel
        have Hall := Lib.hid hall
        clear hall
        by_cases hlt : k < ws.length
        · have hltI : (k : Int) < (ws.length : Int) := by omega
          obtain ⟨b, o, x, rfl, hx, e0, hb⟩ := (hv.below hbr).at_ hlt
          have Hx := Lib.hid hx
          clear hx
          cases hin : inB x 0 1000000 with
          | false =>
            go_wp2_with (go_at_call 40; refine (Same.to hin (In_same _ _ _ _)).mono ?_; rintro e w1 ⟨rfl, rfl⟩)
            go_ret
            refine gives_int ?_ hbr
            rw [He.out, if_pos ⟨x, List.mem_of_getElem? Hx.out, fun h => by rw [inB_iff.2 h] at hin; cases hin⟩]
          | true =>
            go_wp2_with (go_at_call 40; refine (Same.to hin (In_same _ _ _ _)).mono ?_; rintro e w1 ⟨rfl, rfl⟩)
            go_roundw
            case rel =>
              refine ⟨k + 1, by omega, by go_num, hbr, fun j y hj hy => ?_⟩
              by_cases e : j = k
              · subst e
                rw [Hx.out] at hy
                cases hy
                exact inB_iff.1 hin
              · exact Hall.out j y (by omega) hy
            case measure => simp [intOf]; omega
        · obtain rfl : k = ws.length := by omega
          have hno : ¬ ∃ x ∈ ws, ¬ (0 ≤ x ∧ x ≤ 1000000) := fun ⟨x, hx, hn⟩ => by
            obtain ⟨j, hj⟩ := List.getElem?_of_mem hx
            exact hn (Hall.out j x (List.getElem?_eq_some_iff.1 hj).1 hj)
          have He2 : Hid (divFault coins ws = if ¬ (0 ≤ coins ∧ coins ≤ 10000000) then 2 else 0) := by
            show _ = _
            rw [He.out, if_neg hno]
          clear hno
          cases hin : inB coins 0 10000000 with
          | false =>
            go_wp2_with (go_at_call 40; refine (Same.to hin (In_same _ _ _ _)).mono ?_; rintro e w1 ⟨rfl, rfl⟩)
            go_ret
            refine gives_int ?_ hbr
            rw [He2.out, if_pos (fun h => by rw [inB_iff.2 h] at hin; cases hin)]
          | true =>
            go_wp2_with (go_at_call 40; refine (Same.to hin (In_same _ _ _ _)).mono ?_; rintro e w1 ⟨rfl, rfl⟩)
            go_ret
            refine gives_int ?_ hbr
            rw [He2.out, if_neg (fun h => h (inB_iff.1 hin))]

theorem divide1_val (w : World) (x : Int) : CallsVal Try.prog (.func (.func 70) #[] #[]) #[.int .i64 x] w (Gives w (.bool (inB x 0 1000000))) := by
  refine ⟨70, #[.int .i64 x], by kernel_rfl, ?_⟩
  obtain ⟨bb, hbb⟩ : ∃ bb, inB x 0 1000000 = bb := ⟨_, rfl⟩
  rw [hbb]
  go_enter Try.func70, Try.ntmps70
  go_wp2_with (go_at_call 53; refine (Same.to hbb (within_same _ _ _ _)).mono ?_; rintro e w1 ⟨rfl, rfl⟩)
  go_ret
  exact ⟨rfl, Below.refl _ _⟩
theorem allD_any (v : Value) (l : List Int) (w : World) (hv : NumsAt .i64 w v l) : Calls Try.prog 69 #[v, .func (.func 70) #[] #[]] w (Gives w (.bool (l.all fun x => inB x 0 1000000))) :=
  all_ints _ _ _ _ v l w hv fun k x w' _ _ => divide1_val w' x

set_option maxHeartbeats 1600000 in
theorem Divide_fault (coins : Int) (v : Value) (ws : List Int) (w : World) (hv : NumsAt .i64 w v ws) (hf : divFault coins ws ≠ 0) :
    Calls Try.prog 49 #[.int .i64 coins, v] w (Gives w (.tuple #[.slice none 0 0, .int .i64 (divFault coins ws)])) := by
  obtain ⟨A, c, rfl, hc, hm⟩ := hv.form
  have Hv := Lib.hid hv
  by_cases h5 : 5 < ws.length
  · have e : divFault coins ws = 3 := by simp [divFault, h5]
    rw [e]
    have h5I : (5 : Int) < (ws.length : Int) := by omega
    clear e h5
    go_enter Try.func49, Try.ntmps49
    go_wp2
    go_ret2
    exact ⟨rfl, Below.refl _ _⟩
  · by_cases h0 : ws.length = 0
    · have e : divFault coins ws = 1 := by simp [divFault, h0]
      rw [e]
      have h0I : ((ws.length : Int) == 0) = true := by simp [h0]
      have h5I : (ws.length : Int) ≤ 5 := by omega
      clear e h0 h5
      go_enter Try.func49, Try.ntmps49
      go_wp2
      go_ret2
      exact ⟨rfl, Below.refl _ _⟩
    · have e : divFault coins ws = if ∃ x ∈ ws, ¬ (0 ≤ x ∧ x ≤ 1000000) then 1 else if ¬ (0 ≤ coins ∧ coins ≤ 10000000) then 2 else 0 := by
        simp [divFault, h5, h0]
      have h0I : ((ws.length : Int) == 0) = false := beq_eq_false_iff_ne.2 (by omega)
      have h5I : (ws.length : Int) ≤ 5 := by omega
      rw [e]
      cases hall : ws.all fun x => inB x 0 1000000 with
      | false =>
        have hex : ∃ x ∈ ws, ¬ (0 ≤ x ∧ x ≤ 1000000) := by
          rw [all_inB] at hall
          simpa using hall
        rw [if_pos hex]
        clear hex e hf h0 h5
        go_enter Try.func49, Try.ntmps49
        go_wp2_with (go_at_call 69; refine (Gives.to hall (allD_any _ ws _ Hv.out)).mono ?_; rintro e w1 ⟨rfl, hb1⟩)
        go_ret2
        exact ⟨rfl, hb1⟩
      | true =>
        have hex : ¬ ∃ x ∈ ws, ¬ (0 ≤ x ∧ x ≤ 1000000) := by
          rw [all_inB] at hall
          simpa using hall
        have hin : inB coins 0 10000000 = false := by
          cases hin : inB coins 0 10000000 with
          | false => rfl
          | true => rw [e, if_neg hex, if_neg (fun h => h (inB_iff.1 hin))] at hf; exact absurd rfl hf
        rw [if_neg hex, if_pos (fun h => by rw [inB_iff.2 h] at hin; cases hin)]
        clear hex e hf h0 h5
        go_enter Try.func49, Try.ntmps49
        go_wp2_with (first
          | (go_at_call 69; refine (Gives.to hall (allD_any _ ws _ Hv.out)).mono ?_; rintro e w1 ⟨rfl, hb1⟩)
          | (go_at_call 53; refine (Same.to hin (within_same _ _ _ _)).mono ?_; rintro e w2 ⟨rfl, rfl⟩))
        go_ret2
        exact ⟨rfl, hb1⟩
end Go.Proofs.Ytobeffjdfhkjeaa
