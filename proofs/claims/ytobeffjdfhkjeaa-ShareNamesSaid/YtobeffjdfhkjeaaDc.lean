import Derived.Test.YtobeffjdfhkjeaaDa
import Derived.Test.YtobeffjdfhkjeaaTr
import Derived.Shelf.SlSortCmp.WholeK
import Derived.Ground.SlsfProg
set_option linter.unusedVariables false
set_option linter.unusedSimpArgs false
namespace Go.Proofs.Ytobeffjdfhkjeaa
open Go Go.Proofs Go.RowKit

section
open Go.Shelf
def Try.sortRest_ren : Go.Shelf.Ren := ⟨fun | 6 => 72 | 15 => 88 | 14 => 87 | 28 => 102 | 29 => 103 | 20 => 94 | 21 => 95 | 22 => 96 | 23 => 97 | 24 => 98 | 25 => 99 | 26 => 100 | 27 => 101 | 46 => 107 | 47 => 108 | 48 => 109 | 49 => 110 | 50 => 111 | 57 => 112 | n => n, fun | 22 => 106 | 24 => 108 | 25 => 110 | 3 => 3 | 39 => 122 | 0 => 0 | 53 => 74 | 55 => 140 | 4 => 4 | 46 => 132 | 45 => 131 | 50 => 136 | 5 => 5 | 9 => 9 | 66 => 143 | 70 => 147 | 76 => 149 | 77 => 150 | n => n, fun | n => n⟩
theorem Try.sortRest : Go.Proofs.SlLaysF0.n6 Try.prog Try.sortRest_ren := {
  mixed := by kernel_rfl,
  f6 := ⟨Try.f72.name, by decide, Try.func72.trans (congrArg some (by kernel_rfl))⟩,
  f14 := ⟨Try.f87.name, by decide, Try.func87.trans (congrArg some (by kernel_rfl))⟩,
  f15 := Try.func88.trans (congrArg some (by kernel_rfl)),
  f20 := ⟨Try.f94.name, by decide, Try.func94.trans (congrArg some (by kernel_rfl))⟩,
  f21 := ⟨Try.f95.name, by decide, Try.func95.trans (congrArg some (by kernel_rfl))⟩,
  f22 := ⟨Try.f96.name, by decide, Try.func96.trans (congrArg some (by kernel_rfl))⟩,
  f23 := ⟨Try.f97.name, by decide, Try.func97.trans (congrArg some (by kernel_rfl))⟩,
  f24 := ⟨Try.f98.name, by decide, Try.func98.trans (congrArg some (by kernel_rfl))⟩,
  f25 := ⟨Try.f99.name, by decide, Try.func99.trans (congrArg some (by kernel_rfl))⟩,
  f26 := ⟨Try.f100.name, by decide, Try.func100.trans (congrArg some (by kernel_rfl))⟩,
  f27 := ⟨Try.f101.name, by decide, Try.func101.trans (congrArg some (by kernel_rfl))⟩,
  f28 := Try.func102.trans (congrArg some (by kernel_rfl)),
  f29 := Try.func103.trans (congrArg some (by kernel_rfl)),
  f46 := ⟨Try.f107.name, by decide, Try.func107.trans (congrArg some (by kernel_rfl))⟩,
  f47 := Try.func108.trans (congrArg some (by kernel_rfl)),
  f48 := Try.func109.trans (congrArg some (by kernel_rfl)),
  f49 := ⟨Try.f110.name, by decide, Try.func110.trans (congrArg some (by kernel_rfl))⟩,
  f50 := ⟨Try.f111.name, by decide, Try.func111.trans (congrArg some (by kernel_rfl))⟩,
  f57 := ⟨Try.f112.name, by decide, Try.func112.trans (congrArg some (by kernel_rfl))⟩,
  t0 := Try.underlying0,
  a0 := Try.isAgg0,
  z0 := Try.sizeOf0,
  v0 := Try.zeroValue0,
  t3 := Try.underlying3,
  a3 := Try.isAgg3,
  z3 := Try.sizeOf3,
  v3 := Try.zeroValue3,
  t4 := Try.underlying4,
  a4 := Try.isAgg4,
  z4 := Try.sizeOf4,
  v4 := Try.zeroValue4,
  t5 := Try.underlying5,
  a5 := Try.isAgg5,
  z5 := Try.sizeOf5,
  v5 := Try.zeroValue5,
  t9 := Try.underlying9,
  a9 := Try.isAgg9,
  z9 := Try.sizeOf9,
  v9 := Try.zeroValue9,
  t22 := Try.underlying106,
  a22 := Try.isAgg106,
  z22 := Try.sizeOf106,
  v22 := Try.zeroValue106,
  t25 := Try.underlying110,
  a25 := Try.isAgg110,
  z25 := Try.sizeOf110,
  v25 := Try.zeroValue110,
  t39 := Try.underlying122,
  a39 := Try.isAgg122,
  z39 := Try.sizeOf122,
  v39 := Try.zeroValue122,
  t45 := Try.underlying131,
  a45 := Try.isAgg131,
  z45 := Try.sizeOf131,
  v45 := Try.zeroValue131,
  t46 := Try.underlying132,
  a46 := Try.isAgg132,
  z46 := Try.sizeOf132,
  v46 := Try.zeroValue132,
  t50 := Try.underlying136,
  a50 := Try.isAgg136,
  z50 := Try.sizeOf136,
  v50 := Try.zeroValue136,
  t53 := Try.underlying74,
  a53 := Try.isAgg74,
  z53 := Try.sizeOf74,
  v53 := Try.zeroValue74,
  t55 := Try.underlying140,
  a55 := Try.isAgg140,
  z55 := Try.sizeOf140,
  v55 := Try.zeroValue140,
  t66 := Try.underlying143,
  a66 := Try.isAgg143,
  z66 := Try.sizeOf143,
  v66 := Try.zeroValue143,
  t70 := Try.underlying147,
  a70 := Try.isAgg147,
  z70 := Try.sizeOf147,
  v70 := Try.zeroValue147,
  t76 := Try.underlying149,
  a76 := Try.isAgg149,
  z76 := Try.sizeOf149,
  v76 := Try.zeroValue149,
  t77 := Try.underlying150,
  a77 := Try.isAgg150,
  z77 := Try.sizeOf150,
  v77 := Try.zeroValue150 }
end

/-! ### The sort of what is left -/
/-- A company and what is left of its part. -/
abbrev Rest := Fin 8 × Fin 10000000
def encRest (x : Rest) : List Value := [.int .i64 (x.1.val : Int), .int .i64 (x.2.val : Int)]
def orI (a b : Int) : Int := if a ≠ 0 then a else b
def cmpRest (x y : Rest) : Int := orI ((y.2.val : Int) - x.2.val) ((x.1.val : Int) - y.1.val)

theorem Or_same (x y : Int) (v : Value) (W : World) (hv : NumsAt .i64 W v [x, y]) : Calls Try.prog 74 #[v] W (Same W (.int .i64 (orI x y))) := by
  obtain ⟨A, c, rfl, hc, hm⟩ := hv.form
  obtain ⟨b, o, x', rfl, hx, c0, hb⟩ := hv.at_ (k := 0) (by simp)
  obtain ⟨b2, o2, y', e, hy, c1, hb2⟩ := hv.at_ (k := 1) (by simp)
  cases e
  simp only [List.getElem?_cons_zero, Option.some.injEq] at hx
  subst hx
  simp only [List.getElem?_cons_succ, List.getElem?_cons_zero, Option.some.injEq] at hy
  subst hy
  simp only [List.length_cons, List.length_nil, Nat.reduceAdd, Nat.zero_add, Nat.add_zero] at *
  go_enter Try.func74, Try.ntmps74
  go_wp2
  go_loopw [8] (fun i wr => ∃ k : Nat, k ≤ 2 ∧ i = .int .i64 k ∧ wr = W ∧ (1 ≤ k → x = 0) ∧ (2 ≤ k → y = 0)) (fun i wr => 2 - (intOf i).toNat)
  case atStart => exact ⟨0, by omega, rfl, rfl, by omega, by omega⟩
  case round =>
    obtain ⟨k, hk, rfl, rfl, h1, h2⟩ := hrel
    match k, hk with
    | 0, _ =>
      by_cases hx : x = 0
      · subst hx
        have e0 := c0
        go_wp2
        go_roundw
        case rel => exact ⟨1, by omega, by go_num, by simp, by simp, by simp⟩
        case measure => simp [intOf]
      · have e0 := c0
        have hxb : (x == 0) = false := beq_eq_false_iff_ne.2 hx
        have hxd : (x != 0) = true := by simp [hx]
        go_wp2
        go_ret
        exact same_int (by simp [orI, hx])
    | 1, _ =>
      obtain rfl := h1 (by omega)
      by_cases hy : y = 0
      · subst hy
        have e0 := c1
        go_wp2
        go_roundw
        case rel => exact ⟨2, by omega, by go_num, by simp, by simp, by simp⟩
        case measure => simp [intOf]
      · have e0 := c1
        have hxb : (y == 0) = false := beq_eq_false_iff_ne.2 hy
        have hxd : (y != 0) = true := by simp [hy]
        go_wp2
        go_ret
        exact same_int (by simp [orI])
    | 2, _ =>
      obtain rfl := h1 (by omega)
      obtain rfl := h2 (by omega)
      go_wp2
      go_ret
      exact same_int (by simp [orI])

theorem nums_pair {W : World} {b : Nat} {x y : Int} (h0 : W.cell? ⟨b, 0, none⟩ = some (.int .i64 x)) (h1 : W.cell? ⟨b, 1, none⟩ = some (.int .i64 y)) : NumsAt .i64 W (.slice (some ⟨b, 0, none⟩) 2 2) [x, y] := by
  refine ⟨_, 2, rfl, by simp, by simp [maxLen], fun _ => ⟨b, 0, rfl, fun k hk => ?_⟩⟩
  match k, hk with
  | 0, _ => simpa using h0
  | 1, _ => simpa using h1

theorem cmpRest_calls (x y : Rest) (W : World) : Calls Try.prog 73 #[.agg (encRest x).toArray, .agg (encRest y).toArray] W fun e w' => e = .returned (.int .i64 (cmpRest x y)) ∧ ∃ q os', w' = Go.Sort.grow (W.drewN q) os' := by
  obtain ⟨a, b⟩ := x
  obtain ⟨c, d⟩ := y
  have ha := a.isLt
  have hb := b.isLt
  have hc := c.isLt
  have hd := d.isLt
  simp only [encRest, cmpRest]
  obtain ⟨a', ha'⟩ : ∃ z, a.val = z := ⟨_, rfl⟩
  obtain ⟨b', hb'⟩ : ∃ z, b.val = z := ⟨_, rfl⟩
  obtain ⟨c', hc'⟩ : ∃ z, c.val = z := ⟨_, rfl⟩
  obtain ⟨d', hd'⟩ : ∃ z, d.val = z := ⟨_, rfl⟩
  rw [ha'] at ha ⊢
  rw [hb'] at hb ⊢
  rw [hc'] at hc ⊢
  rw [hd'] at hd ⊢
  clear ha' hb' hc' hd' a b c d
  have hor := fun (v : Value) (W : World) (hv : NumsAt .i64 W v [(d' : Int) - b', (a' : Int) - c']) => Or_same ((d' : Int) - b') ((a' : Int) - c') v W hv
  obtain ⟨r, hr⟩ : ∃ r, orI ((d' : Int) - b') ((a' : Int) - c') = r := ⟨_, rfl⟩
  rw [hr] at hor ⊢
  have Hor := Lib.hid hor
  clear hr hor
  go_enter Try.func73, Try.ntmps73
  go_wp2_with fail
  refine (Hor.out _ _ (nums_pair (by simp [go_sem]) (by simp [go_sem]))).mono ?_
  rintro e w1 ⟨rfl, rfl⟩
  go_wp2
  go_ret
  exact ⟨rfl, 0, _, by rw [Go.Sort.alloc_eq_grow, Go.Sort.alloc_eq_grow, Go.Sort.alloc_eq_grow, Go.Sort.grow_grow, Go.Sort.grow_grow]; rfl⟩

theorem cmpRest_lays (blk off size : Nat) (w : World) : CmpLays Try.prog 73 #[] encRest 2 cmpRest blk off size w :=
  fun _ _ _ _ x y => cmpRest_calls x y _

theorem ltRest (x y : Rest) : ltOf cmpRest x y = (decide (y.2.val < x.2.val) || (decide (x.2.val = y.2.val) && decide (x.1.val < y.1.val))) := by
  unfold ltOf cmpRest orI
  rw [Bool.eq_iff_iff]
  simp only [decide_eq_true_eq, Bool.or_eq_true, Bool.and_eq_true]
  split <;> omega
theorem swoRest : Go.Sort.SWO (ltOf cmpRest) where
  irrefl x := by rw [ltRest]; simp
  trans x y z h1 h2 := by
    rw [ltRest] at *
    simp only [decide_eq_true_eq, Bool.or_eq_true, Bool.and_eq_true] at *
    omega
  ntrans x y z h1 h2 := by
    rw [ltRest] at *
    simp only [Bool.or_eq_false_iff, Bool.and_eq_false_iff, decide_eq_false_iff_not] at *
    omega
end Go.Proofs.Ytobeffjdfhkjeaa
