import Derived.Test.YtckgapeednokjaaGreatUd
set_option linter.unusedVariables false
set_option linter.unusedSimpArgs false
namespace Go.Proofs.YtckgapeednokjaaGreat
open Go Go.Proofs Go.RowKit

/-! ### layoverref11: Contradictory -/
def NoCon (l : List Rc) : Prop := ∀ (i k : Nat) (x y : Rc), k < i → l[i]? = some x → l[k]? = some y → contraB x y = false
def GivesCon (l : List Rc) (w : World) (e : Ending) (w' : World) : Prop := ∃ b : Bool, e = .returned (.bool b) ∧ (b = false → NoCon l) ∧ Below w.heap.size w w'
set_option maxRecDepth 100000 in
set_option maxHeartbeats 3200000 in
theorem Contradictory_any (u : Value) (l : List Rc) (w : World) (hl : RecsAt w u l) : Calls Tryz.prog 6 #[u] w (GivesCon l w) := by
  obtain ⟨A, c, rfl, _, _⟩ := hl.form
  have Hl := Lib.hid hl
  clear hl
  go_enter Tryz.func6, Tryz.ntmps6
  go_wp2
  go_loopw [3] (fun s wr => ∃ i : Nat, i ≤ l.length ∧ s = .int .i64 (i : Int) ∧ Below w.heap.size w wr ∧ ∀ (i' k : Nat) (x y : Rc), i' < i → k < i' → l[i']? = some x → l[k]? = some y → contraB x y = false) (fun s wr => l.length - (intOf s).toNat)
  case atStart => exact ⟨0, by omega, rfl, Below.refl _ _, fun i' k x y h => by omega⟩
  case round =>
    obtain ⟨i, hi, rfl, hb, hall⟩ := hrel
    obtain ⟨wo, rfl⟩ : ∃ wo : World, wo = wr := ⟨_, rfl⟩
    have Hall := Lib.hid hall
    clear hall
    by_cases hil : i < l.length
    · go_wp2
      go_loopw [4] (fun s wr => ∃ k : Nat, k ≤ i ∧ s = .int .i64 (k : Int) ∧ Below w.heap.size w wr ∧ ∀ (k' : Nat) (x y : Rc), k' < k → l[i]? = some x → l[k']? = some y → contraB x y = false) (fun s wr => i - (intOf s).toNat)
      case atStart => exact ⟨0, by omega, rfl, hb, fun k x y h => by omega⟩
      case round =>
        obtain ⟨k, hk, rfl, hbk, hj⟩ := hrel
        obtain ⟨wp, rfl⟩ : ∃ wp : World, wp = wr := ⟨_, rfl⟩
        have Hj := Lib.hid hj
        clear hj
        by_cases hki : k < i
        · obtain ⟨b1, o1, x, e, hx, x0, x1, x2, x3, x4, x5, _⟩ := Hl.out.at_ hil
          cases e
          obtain ⟨b2, o2, y, e, hy, y0, y1, y2, y3, y4, y5, _⟩ := Hl.out.at_ (k := k) (by omega)
          cases e
          have Hx := Lib.hid hx
          have Hy := Lib.hid hy
          have kl : (k : Int) < (l.length : Int) := by omega
          clear hx hy
          go_upto_region 7 with (fail)
          refine wp_region_noPanic ?_
          refine wp_region_pick [0, 1, 2, 3, 4, 5, 6, 7] [8] (fun _ => true) (fun w' => Below w.heap.size w w') (by kernel_rfl) (by kernel_rfl) (fun _ _ _ _ _ h => h) hbk.drew (fun hne => ?_)
          have n0 := fun q : Meets (fun w' => Below w.heap.size w w') => cell_below q.property x0
          have m0 := fun q : Meets (fun w' => Below w.heap.size w w') => cell_below q.property y0
          have n1 := fun q : Meets (fun w' => Below w.heap.size w w') => cell_below q.property x1
          have m1 := fun q : Meets (fun w' => Below w.heap.size w w') => cell_below q.property y1
          have n2 := fun q : Meets (fun w' => Below w.heap.size w w') => cell_below q.property x2
          have m2 := fun q : Meets (fun w' => Below w.heap.size w w') => cell_below q.property y2
          have n3 := fun q : Meets (fun w' => Below w.heap.size w w') => cell_below q.property x3
          have m3 := fun q : Meets (fun w' => Below w.heap.size w w') => cell_below q.property y3
          have n4 := fun q : Meets (fun w' => Below w.heap.size w w') => cell_below q.property x4
          have m4 := fun q : Meets (fun w' => Below w.heap.size w w') => cell_below q.property y4
          have n5 := fun q : Meets (fun w' => Below w.heap.size w w') => cell_below q.property x5
          have m5 := fun q : Meets (fun w' => Below w.heap.size w w') => cell_below q.property y5
          simp only [pick, pickN, List.filterMap_cons, List.filterMap_nil, List.getElem?_cons_zero, List.getElem?_cons_succ, Option.map_some]
          repeat (change wpQuiet _ _ _ _ (_ :: _) _; go_big_quiet_step (fail))
          refine wpQuiet_nil ?_
          clear n0 n1 n2 n3 n4 n5 m0 m1 m2 m3 m4 m5 hne
          have B0 := hbk.drew
          obtain ⟨V, hV⟩ : ∃ V, V = wp.drew := ⟨_, rfl⟩
          rw [← hV] at B0 ⊢
          clear hV
          refine wpSeqP_step (fun K hK => ?_)
          go_simp
          refine (Contradict_any x y _).mono ?_
          rintro e wz ⟨rfl, hbz⟩
          have Bz := Lib.hid (B0.trans (hbz.mono B0.size))
          refine hK.out _ _ (fun _ => Bz.out) ?_
          clear hK K hbz
          refine wpSeqP_nil ?_
          refine NoPanic.normal ?_
          cases hc : contraB x y with
          | true =>
            go_wp2
            go_ret
            exact ⟨true, rfl, fun h => (by cases h), Bz.out⟩
          | false =>
            have Hc := Lib.hid hc
            clear hc
            go_wp2
            go_roundw
            case rel =>
              refine ⟨k + 1, by omega, by go_num, Bz.out, fun k' x' y' hk' hx' hy' => ?_⟩
              by_cases e : k' = k
              · subst e
                rw [Hx.out] at hx'
                rw [Hy.out] at hy'
                cases hx'
                cases hy'
                exact Hc.out
              · exact Hj.out k' x' y' (by omega) hx' hy'
            case measure => simp [intOf]; omega
        · obtain rfl : k = i := by omega
          go_wp2
          go_roundw
          case rel =>
            refine ⟨k + 1, by omega, by go_num, hbk, fun i' k' x y hi' hk' hx hy => ?_⟩
            by_cases e : i' = k
            · subst e
              exact Hj.out k' x y hk' hx hy
            · exact Hall.out i' k' x y (by omega) hk' hx hy
          case measure => simp [intOf]; omega
    · obtain rfl : i = l.length := by omega
      go_wp2
      go_ret
      exact ⟨false, rfl, fun _ i k x y hk hx hy => Hall.out i k x y (List.getElem?_eq_some_iff.1 hx).1 hk hx hy, hb⟩
end Go.Proofs.YtckgapeednokjaaGreat
