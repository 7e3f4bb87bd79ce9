import Derived.Test.YtobeffjdfhkjeaaDa
import Derived.Test.YtobeffjdfhkjeaaTr
import Derived.Shelf.SlSortCmp.WholeK
import Derived.Shelf.Lay
import Derived.Ground.SlsfProg
set_option linter.unusedVariables false
set_option linter.unusedSimpArgs false
namespace Go.Proofs.Ytobeffjdfhkjeaa
open Go Go.Proofs Go.RowKit

section
open Go.Shelf
shelf_lay_g SlLaysF0.n6 Slsf 6 at Try 72 as Try.sortRest
end

/-! ### The sort of what is left -/
/-- A company and what is left of its part. -/
abbrev Rest := Fin 8 × Fin 10000000
def encRest (x : Rest) : List Value := [.int .i64 (x.1.val : Int), .int .i64 (x.2.val : Int)]
def orI (a b : Int) : Int := if a ≠ 0 then a else b
def cmpRest (x y : Rest) : Int := orI ((y.2.val : Int) - x.2.val) ((x.1.val : Int) - y.1.val)

theorem Or_same (x y : Int) (v : Value) (W : World) (hv : NumsAt .i64 W v [x, y]) : Calls Try.prog 74 #[v] W (Same W (.int .i64 (orI x y))) := by
  obtain ⟨A, c, rfl, hc, hm⟩ := hv.form
  obtain ⟨b, o, x', rfl, hx, c0, hb⟩ := hv.at_ (k := 0) (by simp)
  obtain ⟨b2, o2, y', e, hy, c1, hb2⟩ := hv.at_ (k := 1) (by simp)
  cases e
  simp only [List.getElem?_cons_zero, Option.some.injEq] at hx
  subst hx
  simp only [List.getElem?_cons_succ, List.getElem?_cons_zero, Option.some.injEq] at hy
  subst hy
  simp only [List.length_cons, List.length_nil, Nat.reduceAdd, Nat.zero_add, Nat.add_zero] at *
  go_enter Try.func74, Try.ntmps74
  go_wp2
  go_loopw [8] (fun i wr => ∃ k : Nat, k ≤ 2 ∧ i = .int .i64 k ∧ wr = W ∧ (1 ≤ k → x = 0) ∧ (2 ≤ k → y = 0)) (fun i wr => 2 - (intOf i).toNat)
  case atStart => exact ⟨0, by omega, rfl, rfl, by omega, by omega⟩
  case round =>
    obtain ⟨k, hk, rfl, rfl, h1, h2⟩ := hrel
    match k, hk with
    | 0, _ =>
      by_cases hx : x = 0
      · subst hx
        have e0 := c0
        go_wp2
        go_roundw
        case rel => exact ⟨1, by omega, by go_num, by simp, by simp, by simp⟩
        case measure => simp [intOf]
      · have e0 := c0
        have hxb : (x == 0) = false := beq_eq_false_iff_ne.2 hx
        have hxd : (x != 0) = true := by simp [hx]
        go_wp2
        go_ret
        exact same_int (by simp [orI, hx])
    | 1, _ =>
      obtain rfl := h1 (by omega)
      by_cases hy : y = 0
      · subst hy
        have e0 := c1
        go_wp2
        go_roundw
        case rel => exact ⟨2, by omega, by go_num, by simp, by simp, by simp⟩
        case measure => simp [intOf]
      · have e0 := c1
        have hxb : (y == 0) = false := beq_eq_false_iff_ne.2 hy
        have hxd : (y != 0) = true := by simp [hy]
        go_wp2
        go_ret
        exact same_int (by simp [orI])
    | 2, _ =>
      obtain rfl := h1 (by omega)
      obtain rfl := h2 (by omega)
      go_wp2
      go_ret
      exact same_int (by simp [orI])

theorem nums_pair {W : World} {b : Nat} {x y : Int} (h0 : W.cell? ⟨b, 0, none⟩ = some (.int .i64 x)) (h1 : W.cell? ⟨b, 1, none⟩ = some (.int .i64 y)) : NumsAt .i64 W (.slice (some ⟨b, 0, none⟩) 2 2) [x, y] := by
  refine ⟨_, 2, rfl, by simp, by simp [maxLen], fun _ => ⟨b, 0, rfl, fun k hk => ?_⟩⟩
  match k, hk with
  | 0, _ => simpa using h0
  | 1, _ => simpa using h1

theorem cmpRest_calls (x y : Rest) (W : World) : Calls Try.prog 73 #[.agg (encRest x).toArray, .agg (encRest y).toArray] W fun e w' => e = .returned (.int .i64 (cmpRest x y)) ∧ ∃ q os', w' = Go.Sort.grow (W.drewN q) os' := by
  obtain ⟨a, b⟩ := x
  obtain ⟨c, d⟩ := y
  have ha := a.isLt
  have hb := b.isLt
  have hc := c.isLt
  have hd := d.isLt
  simp only [encRest, cmpRest]
  obtain ⟨a', ha'⟩ : ∃ z, a.val = z := ⟨_, rfl⟩
  obtain ⟨b', hb'⟩ : ∃ z, b.val = z := ⟨_, rfl⟩
  obtain ⟨c', hc'⟩ : ∃ z, c.val = z := ⟨_, rfl⟩
  obtain ⟨d', hd'⟩ : ∃ z, d.val = z := ⟨_, rfl⟩
  rw [ha'] at ha ⊢
  rw [hb'] at hb ⊢
  rw [hc'] at hc ⊢
  rw [hd'] at hd ⊢
  clear ha' hb' hc' hd' a b c d
  have hor := fun (v : Value) (W : World) (hv : NumsAt .i64 W v [(d' : Int) - b', (a' : Int) - c']) => Or_same ((d' : Int) - b') ((a' : Int) - c') v W hv
  obtain ⟨r, hr⟩ : ∃ r, orI ((d' : Int) - b') ((a' : Int) - c') = r := ⟨_, rfl⟩
  rw [hr] at hor ⊢
  have Hor := Lib.hid hor
  clear hr hor
  go_enter Try.func73, Try.ntmps73
  go_wp2_with fail
  refine (Hor.out _ _ (nums_pair (by simp [go_sem]) (by simp [go_sem]))).mono ?_
  rintro e w1 ⟨rfl, rfl⟩
  go_wp2
  go_ret
  exact ⟨rfl, 0, _, by rw [Go.Sort.alloc_eq_grow, Go.Sort.alloc_eq_grow, Go.Sort.alloc_eq_grow, Go.Sort.grow_grow, Go.Sort.grow_grow]; rfl⟩

theorem cmpRest_lays (blk off size : Nat) (w : World) : CmpLays Try.prog 73 #[] encRest 2 cmpRest blk off size w :=
  fun _ _ _ _ x y => cmpRest_calls x y _

theorem ltRest (x y : Rest) : ltOf cmpRest x y = (decide (y.2.val < x.2.val) || (decide (x.2.val = y.2.val) && decide (x.1.val < y.1.val))) := by
  unfold ltOf cmpRest orI
  rw [Bool.eq_iff_iff]
  simp only [decide_eq_true_eq, Bool.or_eq_true, Bool.and_eq_true]
  split <;> omega
theorem swoRest : Go.Sort.SWO (ltOf cmpRest) where
  irrefl x := by rw [ltRest]; simp
  trans x y z h1 h2 := by
    rw [ltRest] at *
    simp only [decide_eq_true_eq, Bool.or_eq_true, Bool.and_eq_true] at *
    omega
  ntrans x y z h1 h2 := by
    rw [ltRest] at *
    simp only [Bool.or_eq_false_iff, Bool.and_eq_false_iff, decide_eq_false_iff_not] at *
    omega
end Go.Proofs.Ytobeffjdfhkjeaa
