import Derived.Test.YtllobkhdeahgpaaK2
import Derived.Shelf.SlSortCmp.WholeK
import Derived.Ground.SlsfProg
import Derived.Laws.StructEq
import Derived.RangeFuncNested
import Derived.RangeFuncBound
import Derived.RangeFuncCalls
import Derived.RangeFuncLeaves
import Derived.Shelf.Abstract
import Derived.Shelf.RegionOpen
import Derived.OwnWalkIn
import Derived.TacticsInMore
import Derived.LoopNIn
import Derived.LoopIn
import Derived.OrdersIn
import Derived.Outline
set_option linter.unusedVariables false
set_option linter.unusedSimpArgs false
namespace Go.Proofs.Ytllobkhdeahgpaa
open Go Go.Proofs Go.RowKit

section
open Go.Shelf
def Try.sortPc_ren : Go.Shelf.Ren := ⟨fun | 6 => 80 | 15 => 95 | 14 => 94 | 28 => 108 | 29 => 109 | 20 => 100 | 21 => 101 | 22 => 102 | 23 => 103 | 24 => 104 | 25 => 105 | 26 => 106 | 27 => 107 | 46 => 110 | 47 => 111 | 48 => 112 | 49 => 113 | 50 => 114 | 57 => 115 | n => n, fun | 22 => 139 | 24 => 126 | 25 => 141 | 3 => 3 | 39 => 44 | 0 => 0 | 53 => 158 | 55 => 160 | 4 => 4 | 46 => 151 | 45 => 150 | 50 => 155 | 5 => 5 | 9 => 9 | 66 => 161 | 70 => 165 | 76 => 167 | 77 => 50 | n => n, fun | n => n⟩
theorem Try.sortPc : Go.Proofs.SlLaysF0.n6 Try.prog Try.sortPc_ren := {
  mixed := by kernel_rfl,
  f6 := ⟨Try.f80.name, by decide, Try.func80.trans (congrArg some (by kernel_rfl))⟩,
  f14 := ⟨Try.f94.name, by decide, Try.func94.trans (congrArg some (by kernel_rfl))⟩,
  f15 := Try.func95.trans (congrArg some (by kernel_rfl)),
  f20 := ⟨Try.f100.name, by decide, Try.func100.trans (congrArg some (by kernel_rfl))⟩,
  f21 := ⟨Try.f101.name, by decide, Try.func101.trans (congrArg some (by kernel_rfl))⟩,
  f22 := ⟨Try.f102.name, by decide, Try.func102.trans (congrArg some (by kernel_rfl))⟩,
  f23 := ⟨Try.f103.name, by decide, Try.func103.trans (congrArg some (by kernel_rfl))⟩,
  f24 := ⟨Try.f104.name, by decide, Try.func104.trans (congrArg some (by kernel_rfl))⟩,
  f25 := ⟨Try.f105.name, by decide, Try.func105.trans (congrArg some (by kernel_rfl))⟩,
  f26 := ⟨Try.f106.name, by decide, Try.func106.trans (congrArg some (by kernel_rfl))⟩,
  f27 := ⟨Try.f107.name, by decide, Try.func107.trans (congrArg some (by kernel_rfl))⟩,
  f28 := Try.func108.trans (congrArg some (by kernel_rfl)),
  f29 := Try.func109.trans (congrArg some (by kernel_rfl)),
  f46 := ⟨Try.f110.name, by decide, Try.func110.trans (congrArg some (by kernel_rfl))⟩,
  f47 := Try.func111.trans (congrArg some (by kernel_rfl)),
  f48 := Try.func112.trans (congrArg some (by kernel_rfl)),
  f49 := ⟨Try.f113.name, by decide, Try.func113.trans (congrArg some (by kernel_rfl))⟩,
  f50 := ⟨Try.f114.name, by decide, Try.func114.trans (congrArg some (by kernel_rfl))⟩,
  f57 := ⟨Try.f115.name, by decide, Try.func115.trans (congrArg some (by kernel_rfl))⟩,
  t0 := Try.underlying0,
  a0 := Try.isAgg0,
  z0 := Try.sizeOf0,
  v0 := Try.zeroValue0,
  t3 := Try.underlying3,
  a3 := Try.isAgg3,
  z3 := Try.sizeOf3,
  v3 := Try.zeroValue3,
  t4 := Try.underlying4,
  a4 := Try.isAgg4,
  z4 := Try.sizeOf4,
  v4 := Try.zeroValue4,
  t5 := Try.underlying5,
  a5 := Try.isAgg5,
  z5 := Try.sizeOf5,
  v5 := Try.zeroValue5,
  t9 := Try.underlying9,
  a9 := Try.isAgg9,
  z9 := Try.sizeOf9,
  v9 := Try.zeroValue9,
  t22 := Try.underlying139,
  a22 := Try.isAgg139,
  z22 := Try.sizeOf139,
  v22 := Try.zeroValue139,
  t25 := Try.underlying141,
  a25 := Try.isAgg141,
  z25 := Try.sizeOf141,
  v25 := Try.zeroValue141,
  t39 := Try.underlying44,
  a39 := Try.isAgg44,
  z39 := Try.sizeOf44,
  v39 := Try.zeroValue44,
  t45 := Try.underlying150,
  a45 := Try.isAgg150,
  z45 := Try.sizeOf150,
  v45 := Try.zeroValue150,
  t46 := Try.underlying151,
  a46 := Try.isAgg151,
  z46 := Try.sizeOf151,
  v46 := Try.zeroValue151,
  t50 := Try.underlying155,
  a50 := Try.isAgg155,
  z50 := Try.sizeOf155,
  v50 := Try.zeroValue155,
  t53 := Try.underlying158,
  a53 := Try.isAgg158,
  z53 := Try.sizeOf158,
  v53 := Try.zeroValue158,
  t55 := Try.underlying160,
  a55 := Try.isAgg160,
  z55 := Try.sizeOf160,
  v55 := Try.zeroValue160,
  t66 := Try.underlying161,
  a66 := Try.isAgg161,
  z66 := Try.sizeOf161,
  v66 := Try.zeroValue161,
  t70 := Try.underlying165,
  a70 := Try.isAgg165,
  z70 := Try.sizeOf165,
  v70 := Try.zeroValue165,
  t76 := Try.underlying167,
  a76 := Try.isAgg167,
  z76 := Try.sizeOf167,
  v76 := Try.zeroValue167,
  t77 := Try.underlying50,
  a77 := Try.isAgg50,
  z77 := Try.sizeOf50,
  v77 := Try.zeroValue50 }
end

/-! ### The order of pieces -/
/-- w with draws and new blocks. -/
def Laid (w w' : World) : Prop := ∃ q os, w' = Go.Sort.grow (w.drewN q) os
theorem Laid.refl (w : World) : Laid w w := ⟨0, #[], by simp [Go.Sort.grow, World.drewN_zero]⟩
theorem Laid.drew {w w' : World} (h : Laid w w') : Laid w w'.drew := by
  obtain ⟨q, os, rfl⟩ := h
  exact ⟨q + 1, os, rfl⟩
theorem Laid.drewN {w w' : World} (h : Laid w w') (n : Nat) : Laid w (w'.drewN n) := by
  obtain ⟨q, os, rfl⟩ := h
  exact ⟨q + n, os, by rw [← World.drewN_drewN]; rfl⟩
theorem Laid.alloc {w w' : World} (h : Laid w w') (o : Obj) : Laid w (w'.alloc o) := by
  obtain ⟨q, os, rfl⟩ := h
  exact ⟨q, os ++ #[o], by rw [Go.Sort.alloc_eq_grow, Go.Sort.grow_grow]⟩
theorem Laid.below {w w' : World} (h : Laid w w') : Below w.heap.size w w' := by
  obtain ⟨q, os, rfl⟩ := h
  refine ⟨rfl, rfl, rfl, by simp [Go.Sort.grow], fun k hk => ?_⟩
  show (w.heap ++ os)[k]? = _
  rw [Array.getElem?_append_left hk]

def orI (a b : Int) : Int := if a ≠ 0 then a else b
theorem nums_pair {W : World} {b : Nat} {x y : Int} (h0 : W.cell? ⟨b, 0, none⟩ = some (.int .i64 x)) (h1 : W.cell? ⟨b, 1, none⟩ = some (.int .i64 y)) : NumsAt .i64 W (.slice (some ⟨b, 0, none⟩) 2 2) [x, y] := by
  refine ⟨_, 2, rfl, by simp, by simp [maxLen], fun _ => ⟨b, 0, rfl, fun k hk => ?_⟩⟩
  match k, hk with
  | 0, _ => simpa using h0
  | 1, _ => simpa using h1
theorem Or_same (x y : Int) (v : Value) (W : World) (hv : NumsAt .i64 W v [x, y]) : Calls Try.prog 82 #[v] W (Same W (.int .i64 (orI x y))) := by
  obtain ⟨A, c, rfl, hc, hm⟩ := hv.form
  obtain ⟨b, o, x', rfl, hx, c0, hb⟩ := hv.at_ (k := 0) (by simp)
  obtain ⟨b2, o2, y', e, hy, c1, hb2⟩ := hv.at_ (k := 1) (by simp)
  cases e
  simp only [List.getElem?_cons_zero, Option.some.injEq] at hx
  subst hx
  simp only [List.getElem?_cons_succ, List.getElem?_cons_zero, Option.some.injEq] at hy
  subst hy
  simp only [List.length_cons, List.length_nil, Nat.reduceAdd, Nat.zero_add, Nat.add_zero] at *
  go_enter Try.func82, Try.ntmps82
  go_wp2
  go_loopw [8] (fun i wr => ∃ k : Nat, k ≤ 2 ∧ i = .int .i64 k ∧ wr = W ∧ (1 ≤ k → x = 0) ∧ (2 ≤ k → y = 0)) (fun i wr => 2 - (intOf i).toNat)
  case atStart => exact ⟨0, by omega, rfl, rfl, by omega, by omega⟩
  case round =>
    obtain ⟨k, hk, rfl, rfl, h1, h2⟩ := hrel
    match k, hk with
    | 0, _ =>
      by_cases hx : x = 0
      · subst hx
        have e0 := c0
        go_wp2
        go_roundw
        case rel => exact ⟨1, by omega, by go_num, by simp, by simp, by simp⟩
        case measure => simp [intOf]
      · have e0 := c0
        have hxb : (x == 0) = false := beq_eq_false_iff_ne.2 hx
        have hxd : (x != 0) = true := by simp [hx]
        go_wp2
        go_ret
        exact same_int (by simp [orI, hx])
    | 1, _ =>
      obtain rfl := h1 (by omega)
      by_cases hy : y = 0
      · subst hy
        have e0 := c1
        go_wp2
        go_roundw
        case rel => exact ⟨2, by omega, by go_num, by simp, by simp, by simp⟩
        case measure => simp [intOf]
      · have e0 := c1
        have hxb : (y == 0) = false := beq_eq_false_iff_ne.2 hy
        have hxd : (y != 0) = true := by simp [hy]
        go_wp2
        go_ret
        exact same_int (by simp [orI])
    | 2, _ =>
      obtain rfl := h1 (by omega)
      obtain rfl := h2 (by omega)
      go_wp2
      go_ret
      exact same_int (by simp [orI])
def pcC (p : Pc) : List Value := [.int .i64 (p.b : Int), .int .i64 (p.fr : Int), .int .i64 (p.b : Int), .int .i64 (p.to : Int), .int .i64 (p.first : Int)]
def cmpPc (bl : List (List Rel)) (p q : Pc) : Int := orI (loT bl p.b p.fr - loT bl q.b q.fr) ((p.first : Int) - q.first)
set_option maxRecDepth 100000 in
set_option maxHeartbeats 1600000 in
theorem cmp_calls (P Q : Nat) (d : DDay) (p q : Pc) (w : World) (hd : DayOk d) (hp : PlanAt w P d) (hq : w.cell? ⟨Q, 0, none⟩ = some (.pointer (some ⟨P, 0, none⟩))) (h1 : InDay d p.b p.fr) (h2 : InDay d q.b q.fr) (f1 : p.first ≤ 1000) (f2 : q.first ≤ 1000) :
    Calls Try.prog 81 #[.agg (pcC p).toArray, .agg (pcC q).toArray, .pointer (some ⟨Q, 0, none⟩)] w fun e w' => e = .returned (.int .i64 (cmpPc d.blocks p q)) ∧ Laid w w' := by
  obtain ⟨A1, A2, A3, c1, c2, c3, _, g8, _, _, hbl, _, _, _⟩ := hp.cells
  obtain ⟨B, o, B', o', m, c', rfl, k0, him, hB, hB', _, k1, _⟩ := rel_cells hbl h1
  obtain ⟨B2, o2, B2', o2', m2, c2', e, l0, him2, hB2, hB2', _, l1, _⟩ := rel_cells hbl h2
  cases e
  have hP := hp.lt
  have hQ := World.block_lt_of_cell? _ _ hq
  have i1 : (p.b : Int) < (d.blocks.length : Int) := by have := h1.1; omega
  have i2 : (p.fr : Int) < (m : Int) := by omega
  have i3 : (q.b : Int) < (d.blocks.length : Int) := by have := h2.1; omega
  have i4 : (q.fr : Int) < (m2 : Int) := by omega
  have r1 := rel_any hd p.b p.fr
  have r2 := rel_any hd q.b q.fr
  have hor := fun (v : Value) (W : World) (hv : NumsAt .i64 W v [loT d.blocks p.b p.fr - loT d.blocks q.b q.fr, (p.first : Int) - q.first]) => Or_same _ _ v W hv
  obtain ⟨z, hz⟩ : ∃ z, cmpPc d.blocks p q = z := ⟨_, rfl⟩
  unfold cmpPc at hz
  simp only [cmpPc]
  rw [hz] at hor ⊢
  have Hor := Lib.hid hor
  have w1 : IntKind.i64.wrap (loT d.blocks p.b p.fr - loT d.blocks q.b q.fr) = loT d.blocks p.b p.fr - loT d.blocks q.b q.fr := IntWalk.i64_in _ (by omega)
  have w2 : IntKind.i64.wrap ((p.first : Int) - q.first) = (p.first : Int) - q.first := IntWalk.i64_in _ (by omega)
  clear hor hz h1 h2 hp hbl r1 r2 hd
  simp only [pcC]
  generalize loT d.blocks p.b p.fr = x1 at *
  generalize loT d.blocks q.b q.fr = x2 at *
  go_enter Try.func81, Try.ntmps81
  go_wp2_with fail
  have hL : Laid w ((w.alloc (.cells #[.int .i64 (p.b : Int), .int .i64 (p.fr : Int), .int .i64 (p.b : Int), .int .i64 (p.to : Int), .int .i64 (p.first : Int)] 126)).alloc (.cells #[.int .i64 (q.b : Int), .int .i64 (q.fr : Int), .int .i64 (q.b : Int), .int .i64 (q.to : Int), .int .i64 (q.first : Int)] 126)) :=
    ((Laid.refl w).alloc _).alloc _
  refine wp_name (fun W => Laid w W ∧ W.cell? ⟨w.heap.size, 0, none⟩ = some (.int .i64 (p.b : Int)) ∧ W.cell? ⟨w.heap.size, 1, none⟩ = some (.int .i64 (p.fr : Int)) ∧ W.cell? ⟨w.heap.size, 4, none⟩ = some (.int .i64 (p.first : Int)) ∧
      W.cell? ⟨w.heap.size + 1, 0, none⟩ = some (.int .i64 (q.b : Int)) ∧ W.cell? ⟨w.heap.size + 1, 1, none⟩ = some (.int .i64 (q.fr : Int)) ∧ W.cell? ⟨w.heap.size + 1, 4, none⟩ = some (.int .i64 (q.first : Int))) ⟨hL, by simp [go_sem], by simp [go_sem], by simp [go_sem], by simp [go_sem], by simp [go_sem], by simp [go_sem]⟩ (fun W hF => ?_)
  obtain ⟨hW, a0, a1, a4, b0, b1, b4⟩ := hF
  clear hL
  have hWb := hW.below
  replace g8 := cell_below hWb g8
  replace k0 := cell_below hWb k0
  replace k1 := cell_below hWb k1
  replace l0 := cell_below hWb l0
  replace l1 := cell_below hWb l1
  replace hq := cell_below hWb hq
  refine wp_region_noPanic ?_
  refine wp_region_pick [0, 1, 2, 3, 4, 5, 6, 7, 8, 9, 10, 11, 12, 13, 14, 15, 16, 17, 18, 19, 20, 21, 22, 23, 24, 25, 26, 27, 28, 29, 30, 31, 32, 33, 34, 35, 36, 37, 38, 39, 40, 41, 42, 43] [44, 45, 46] (fun _ => true) (Laid W) (by kernel_rfl) (by kernel_rfl) (fun _ _ _ _ _ h => h) (Laid.refl _).drew (fun hne => ?_)
  have n0 := fun x : Meets (Laid W) => cell_below (Laid.below x.property) g8
  have n1 := fun x : Meets (Laid W) => cell_below (Laid.below x.property) k0
  have n2 := fun x : Meets (Laid W) => cell_below (Laid.below x.property) k1
  have n3 := fun x : Meets (Laid W) => cell_below (Laid.below x.property) l0
  have n4 := fun x : Meets (Laid W) => cell_below (Laid.below x.property) l1
  have n5 := fun x : Meets (Laid W) => cell_below (Laid.below x.property) hq
  have n6 := fun x : Meets (Laid W) => cell_below (Laid.below x.property) a0
  have n7 := fun x : Meets (Laid W) => cell_below (Laid.below x.property) a1
  have n8 := fun x : Meets (Laid W) => cell_below (Laid.below x.property) a4
  have n9 := fun x : Meets (Laid W) => cell_below (Laid.below x.property) b0
  have n10 := fun x : Meets (Laid W) => cell_below (Laid.below x.property) b1
  have n11 := fun x : Meets (Laid W) => cell_below (Laid.below x.property) b4
  simp only [pick, pickN, List.filterMap_cons, List.filterMap_nil, List.getElem?_cons_zero, List.getElem?_cons_succ, Option.map_some]
  repeat (change wpQuiet _ _ _ _ (_ :: _) _; go_big_quiet_step (fail))
  refine wpQuiet_nil ?_
  clear n0 n1 n2 n3 n4 n5 n6 n7 n8 n9 n10 n11 hne
  refine wpSeqP_step (fun K hK => ?_)
  go_simp
  refine hK.out _ _ (fun _ => (Laid.refl _).drew.alloc _) ?_
  clear hK K
  refine wpSeqP_step (fun K hK => ?_)
  go_simp
  refine (Hor.out _ _ (nums_pair (by simp [go_sem]) (by simp [go_sem]))).mono ?_
  rintro e W1 ⟨rfl, rfl⟩
  refine hK.out _ _ (fun _ => (Laid.refl _).drew.alloc _) ?_
  clear hK K
  refine wpSeqP_step (fun K hK => ?_)
  go_simp
  refine hK.out _ _ (fun _ => (Laid.refl _).drew.alloc _) ?_
  clear hK K
  refine wpSeqP_nil ?_
  refine NoPanic.normal ?_
  go_wp2
  go_ret
  exact ⟨rfl, hW.drew.alloc _⟩
end Go.Proofs.Ytllobkhdeahgpaa
namespace Go.Proofs.Ytllobkhdeahgpaa
open Go Go.Proofs Go.RowKit

/-! ### Pieces, sorted -/
abbrev PcD (d : DDay) : Type := { p : Pc // InDay d p.b p.fr ∧ p.first ≤ 1000 }
def encP {d : DDay} (x : PcD d) : List Value := pcC x.1
def cmpD {d : DDay} (x y : PcD d) : Int := cmpPc d.blocks x.1 y.1
theorem ltP {d : DDay} (x y : PcD d) : ltOf cmpD x y = bef d.blocks x.1 y.1 := by
  unfold ltOf cmpD cmpPc orI bef
  rw [Bool.eq_iff_iff]
  simp only [decide_eq_true_eq, Bool.or_eq_true, Bool.and_eq_true]
  split <;> omega
theorem swoP (d : DDay) : Go.Sort.SWO (ltOf (cmpD (d := d))) where
  irrefl x := by rw [ltP]; exact bef_irrefl _ _
  trans x y z h1 h2 := by
    rw [ltP] at *
    exact bef_trans h1 h2
  ntrans x y z h1 h2 := by
    rw [ltP] at *
    simp only [bef, Bool.or_eq_false_iff, Bool.and_eq_false_iff, decide_eq_false_iff_not] at *
    omega
def pcCells (ps : List Pc) : List Value := ps.flatMap pcC
theorem pcCells_length (ps : List Pc) : (pcCells ps).length = ps.length * 5 := flat_length (f := pcC) (n := 5) (fun _ => rfl) ps
theorem pcCells_get {ps : List Pc} {k j : Nat} {p : Pc} (h : ps[k]? = some p) (hj : j < 5) : (pcCells ps)[k * 5 + j]? = (pcC p)[j]? := flat_get (f := pcC) (n := 5) (fun _ => rfl) h hj
def pcArr {d : DDay} (ps : List Pc) (h : ∀ p ∈ ps, InDay d p.b p.fr ∧ p.first ≤ 1000) : Array (PcD d) := (ps.pmap (fun p hp => (⟨p, hp⟩ : PcD d)) h).toArray
theorem pcArr_list {d : DDay} (ps : List Pc) (h : ∀ p ∈ ps, InDay d p.b p.fr ∧ p.first ≤ 1000) : (pcArr ps h).toList.map (·.1) = ps := by
  simp only [pcArr]
  rw [List.map_pmap]
  simp
theorem pcArr_size {d : DDay} (ps : List Pc) (h : ∀ p ∈ ps, InDay d p.b p.fr ∧ p.first ≤ 1000) : (pcArr ps h).size = ps.length := by simp [pcArr]
theorem pcArr_get {d : DDay} [Inhabited (PcD d)] (ps : List Pc) (h : ∀ p ∈ ps, InDay d p.b p.fr ∧ p.first ≤ 1000) {k : Nat} (hk : k < ps.length) : (pcArr ps h)[k]!.1 = ps[k] := by
  rw [getElem!_pos _ k (by rw [pcArr_size]; exact hk)]
  simp [pcArr]
theorem sort_grown {α : Type} [Inhabited α] (enc : α → List Value) (n : Nat) (w : World) (g m : Nat) (d : Array α) (os : Array Obj) : w.grownBy (sortWorldK enc n w g 0 m d os) (some g) := by
  refine ⟨rfl, rfl, rfl, ?_, fun k hk hne => ?_⟩
  · simp [sortWorldK, Go.Sort.grow, Go.Sort.putRowK, Go.Sort.putRow, Go.Sort.mapBlock, Go.Sort.ahead]
  · have hne' : g ≠ k := fun e => hne (by rw [e])
    show ((w.heap.modify g _) ++ os)[k]? = _
    rw [Array.getElem?_append_left (by rw [Array.size_modify]; exact hk), Array.getElem?_modify, if_neg hne']

set_option maxHeartbeats 1000000 in
theorem sortPc_any (P Q g c base : Nat) (d : DDay) (ps : List Pc) (w0 w : World) (hd : DayOk d) (hp : PlanAt w0 P d) (hb0 : Below w0.heap.size w0 w) (hg0 : w0.heap.size ≤ g) (hq : w.cell? ⟨Q, 0, none⟩ = some (.pointer (some ⟨P, 0, none⟩))) (hqg : Q ≠ g)
    (hne : ps ≠ []) (hps : ∀ p ∈ ps, InDay d p.b p.fr ∧ p.first ≤ 1000) (hnd : (ps.map (·.first)).Nodup) (hlen : ps.length ≤ 1000) (ho : w.ownsRow base 126 5 (.slice (some ⟨g, 0, none⟩) ps.length c) ps.length (pcCells ps)) :
    Calls Try.prog 80 #[.slice (some ⟨g, 0, none⟩) ps.length c, .func (.func 81) #[] #[.pointer (some ⟨Q, 0, none⟩)]] w fun e w' => e = .returned (.tuple #[]) ∧ w.grownBy w' (some g) ∧
      ∀ (k : Nat) (p : Pc), (srtP d.blocks ps)[k]? = some p → ∀ j, j < 5 → w'.cell? ⟨g, k * 5 + j, none⟩ = (pcC p)[j]? := by
  have hp0 : 0 < ps.length := List.length_pos_iff.2 hne
  letI : Inhabited (PcD d) := ⟨⟨ps[0], hps _ (List.getElem_mem hp0)⟩⟩
  have eg : ∀ args w, (callFunc 81 args).run Try.prog w = .ok (.enter 81 args) w := enters_of Try.func81 (by kernel_rfl) rfl
  have hg : g < w.heap.size := (ho.lt g rfl).2
  have hsz := pcArr_size ps hps
  have hH : Go.Sort.HoldsK encP 5 w g 0 (pcArr ps hps) := by
    intro j hj
    rw [Go.Sort.size_flatK, hsz] at hj
    have h1 := ho.cellAt j (by omega)
    refine ⟨?_, by simpa using ho.frozenAt j⟩
    rw [Nat.zero_add, h1, Go.Sort.get_flatK _ _ _ _ (by rw [hsz]; exact hj)]
    have hj5 : j / 5 < ps.length := by omega
    have h2 := pcCells_get (ps := ps) (k := j / 5) (j := j % 5) (List.getElem?_eq_getElem hj5) (Nat.mod_lt _ (by omega))
    rw [show j / 5 * 5 + j % 5 = j by omega] at h2
    rw [h2]
    unfold encP
    rw [pcArr_get ps hps hj5]
    have hl : j % 5 < (pcC ps[j / 5]).length := Nat.mod_lt _ (by omega)
    rw [List.getElem?_eq_getElem hl]
    simp [hl]
  have hcmp : CmpLays Try.prog 81 #[.pointer (some ⟨Q, 0, none⟩)] encP 5 (cmpD (d := d)) g 0 (pcArr ps hps).size w := by
    intro m os dk _ x y
    have hgr := sort_grown encP 5 w g m dk os
    have hbW : Below w0.heap.size w0 (sortWorldK encP 5 w g 0 m dk os) := hb0.grown hgr hb0.size (fun k e => by cases e; exact hg0)
    have hQ := World.block_lt_of_cell? _ _ hq
    have hqW : (sortWorldK encP 5 w g 0 m dk os).cell? ⟨Q, 0, none⟩ = some (.pointer (some ⟨P, 0, none⟩)) := by
      rw [← hq]
      exact World.cell?_of_block (hgr.block Q hQ (fun e => hqg (by cases e; rfl)))
    exact cmp_calls P Q d x.1 y.1 _ hd (hp.below hbW) hqW x.2.1 y.2.1 x.2.2 y.2.2
  have hcon := AnyQ.slices_SortFunc Try.sortPc 5 Try.isAgg126 Try.sizeOf126 (encP (d := d)) (fun _ => rfl) (fun x v hv => by simp [encP, pcC] at hv; rcases hv with rfl | rfl | rfl | rfl | rfl <;> rfl) cmpD (swoP d) 81 #[.pointer (some ⟨Q, 0, none⟩)] g 0 c (pcArr ps hps) w eg hcmp hH hg (by rw [hsz]; omega)
  rw [hsz] at hcon
  change Calls Try.prog 80 _ _ _ at hcon
  refine hcon.mono ?_
  rintro e w' ⟨rfl, d', m, os, ⟨hs, _, hpm⟩, hsort, rfl⟩
  rw [hsz] at hs
  have hp' : d'.toList.Perm (pcArr ps hps).toList := by
    rw [Array.extract_eq_self_of_le (by omega), Array.extract_eq_self_of_le (by rw [hsz]; omega)] at hpm
    exact hpm
  have hperm : (d'.toList.map (·.1)).Perm ps := by
    have := hp'.map (fun x : PcD d => x.1)
    rw [pcArr_list] at this
    exact this
  have hnd' : ((d'.toList.map (·.1)).map (·.first)).Nodup := (hperm.map _).nodup_iff.2 hnd
  have e : srtP d.blocks ps = d'.toList.map (·.1) := by
    refine sorted_unique (bl := d.blocks) ((srtP_perm _ _).trans hperm.symm) (srtP_sorted _ _ hnd) ?_
    rw [List.pairwise_iff_getElem]
    intro i j hi hj hij
    have hi' : i < d'.size := by simpa using hi
    have hj' : j < d'.size := by simpa using hj
    have hlt := hsort i j (by omega) hij (by omega)
    rw [ltP, getElem!_pos d' i hi', getElem!_pos d' j hj'] at hlt
    rw [List.getElem_map, List.getElem_map, Array.getElem_toList, Array.getElem_toList]
    have hfst : d'[i].1.first ≠ d'[j].1.first := fun h => by
      have h3 := List.pairwise_iff_getElem.1 hnd' i j (by simpa using hi') (by simpa using hj') hij
      simp only [List.getElem_map, Array.getElem_toList] at h3
      exact h3 h
    rcases bef_total (bl := d.blocks) hfst with h4 | h4
    · exact h4
    · rw [h4] at hlt; cases hlt
  refine ⟨rfl, sort_grown encP 5 w g m d' os, fun k p hk j hj => ?_⟩
  rw [e, List.getElem?_map, Array.getElem?_toList] at hk
  have hkd : k < d'.size := by
    rcases Nat.lt_or_ge k d'.size with h | h
    · exact h
    · rw [Array.getElem?_eq_none h] at hk; cases hk
  rw [Array.getElem?_eq_getElem hkd, Option.map_some, Option.some.injEq] at hk
  subst hk
  have hw : Go.Sort.HoldsK encP 5 (sortWorldK encP 5 w g 0 m d' os) g 0 d' := SWK.holds ⟨m, os, rfl⟩ hg hH (by rw [hsz]; exact hs)
  have hc := (hw (k * 5 + j) (by rw [Go.Sort.size_flatK]; omega)).1
  rw [Nat.zero_add, Go.Sort.get_flatK _ _ _ _ (by omega), show (k * 5 + j) / 5 = k by omega, show (k * 5 + j) % 5 = j by omega, getElem!_pos d' k hkd] at hc
  simp only [id] at hc
  rw [hc]
  unfold encP
  have hl : j < (pcC d'[k].1).length := hj
  rw [List.getElem?_eq_getElem hl]
  simp [hl]
end Go.Proofs.Ytllobkhdeahgpaa
namespace Go.Proofs.Ytllobkhdeahgpaa
open Go Go.Proofs Go.RowKit

/-! ### Two spots compared -/
theorem spot_fields : (Try.prog.fieldsOf 103).toList.map (fun f => (f.name, f.type, f.offset)) = [("block", 3, 0), ("at", 3, 1)] := by kernel_rfl
theorem spot_under : Try.prog.underlying 103 = some (.struct (Try.prog.fieldsOf 103)) := by kernel_rfl
theorem spot_held : Try.prog.stoodInHeld 103 = false := by kernel_rfl
theorem spot_guard (w : World) (x y : Operand) (xs ys : Array Value) : (eqGuard .eql 103 x y (.agg xs) (.agg ys)).run Try.prog w = .ok () w := run_eqGuard_agg w _ _ _ _ _ _ (by kernel_rfl)
theorem spot_eql (w : World) (a b c e : Int) : (binOp .eql 103 (.agg #[.int .i64 a, .int .i64 b]) (.agg #[.int .i64 c, .int .i64 e])).run Try.prog w = .ok (.bool (a == c && b == e)) w := by
  rw [run_eql_struct, run_equalIn_agg w 9999 _ _ _ spot_under spot_held]
  have hf := spot_fields
  match h : (Try.prog.fieldsOf 103).toList with
  | [] => rw [h] at hf; simp at hf
  | [f] => rw [h] at hf; simp at hf
  | [f, g] =>
    rw [h] at hf
    simp only [List.map_cons, List.map_nil, List.cons.injEq, Prod.mk.injEq, and_true] at hf
    obtain ⟨⟨n1, t1, o1⟩, n2, t2, o2⟩ := hf
    simp only [Op.eqFields, n1, n2, t1, t2, o1, o2]
    simp [go_sem]
    by_cases h1 : a = c
    · by_cases h2 : b = e
      · simp [h1, h2]
      · simp [h1, h2]
    · simp [h1]
  | f :: g :: k :: r => rw [h] at hf; simp at hf
end Go.Proofs.Ytllobkhdeahgpaa
namespace Go.Proofs.Ytllobkhdeahgpaa
open Go Go.Proofs Go.RowKit

/-! ### The pieces of a duty -/
theorem own_some {w : World} {base : Nat} {e : TypeId} {size n c : Nat} {A : Option Addr} {xs : List Value} (h : w.ownsRow base e size (.slice A n c) n xs) (hn : 0 < n) : ∃ g, A = some ⟨g, 0, none⟩ ∧ base ≤ g ∧ g < w.heap.size := by
  rcases h.2 with ⟨_, h0⟩ | ⟨g, cap, cur, h', hb, hg, _⟩
  · omega
  · cases h'
    exact ⟨g, rfl, hb, (Array.getElem?_eq_some_iff.1 hg).1⟩
theorem addP_len : ∀ (ps : List Pc) (s : Nat × Nat) (n : Nat), (addP ps s n).length ≤ ps.length + 1
  | [], s, n => by simp [addP]
  | [p], s, n => by simp only [addP]; split <;> simp
  | p :: q :: t, s, n => by
    have := addP_len (q :: t) s n
    simp only [addP, List.length_cons] at this ⊢
    omega
theorem rawP_le (sg : List (Nat × Nat)) (l : List Nat) : (rawP sg l).length ≤ l.length := by
  have : ∀ (l : List Nat) (a : List Pc), (l.foldl (fun ps n => addP ps (sg[n]?.getD (0, 0)) n) a).length ≤ a.length + l.length := by
    intro l
    induction l with
    | nil => intro a; simp
    | cons n t ih =>
      intro a
      have h1 := ih (addP a (sg[n]?.getD (0, 0)) n)
      have h2 := addP_len a (sg[n]?.getD (0, 0)) n
      simp only [List.foldl_cons, List.length_cons]
      omega
  have := this l []
  simpa [rawP] using this
def pcN (b i k : Nat) : List Value := [.int .i64 (b : Int), .int .i64 (i : Int), .int .i64 (b : Int), .int .i64 ((i : Int) + 1), .int .i64 (k : Int)]
theorem pcN_eq (b i k : Nat) : pcN b i k = pcC ⟨b, i, i + 1, k⟩ := by simp [pcN, pcC]
theorem src_newN {w : World} {xs : List Value} {t : TypeId} {m size N : Nat} (h : xs.length = m * size) (hN : w.heap.size = N) : Src (w.alloc (.cells xs.toArray t)) (some ⟨N, 0, none⟩) m size xs := by
  subst hN
  exact src_new w xs t m size h
theorem pcCells_snoc (ps : List Pc) (p : Pc) : pcCells (ps ++ [p]) = pcCells ps ++ pcC p := by simp [pcCells]
theorem pcCells_set (ps : List Pc) (p : Pc) (b i : Nat) (h : p.b = b) : ((pcCells (ps ++ [p])).set (ps.length * 5 + 2) (.int .i64 (b : Int))).set (ps.length * 5 + 3) (.int .i64 ((i : Int) + 1)) = pcCells (ps ++ [{ p with to := i + 1 }]) := by
  have hl := pcCells_length ps
  rw [pcCells_snoc, pcCells_snoc, List.set_append_right _ _ (by omega), List.set_append_right _ _ (by omega), hl]
  subst h
  congr 1
  rw [show ps.length * 5 + 2 - ps.length * 5 = 2 by omega, show ps.length * 5 + 3 - ps.length * 5 = 3 by omega]
  rfl
theorem infoP : (Try.prog.info? 126).map (fun i => (i.zero, i.size, i.bytes)) = some (some (.agg #[.int .i64 0, .int .i64 0, .int .i64 0, .int .i64 0, .int .i64 0]), 5, 40) := by kernel_rfl
/-- An iterator over pieces: a box with a slice. -/
def SeqAt (b0 : Nat) (w : World) (v : Value) (ps : List Pc) : Prop := ∃ B g c, v = .func (.func 96) #[] #[.pointer (some ⟨B, 0, none⟩)] ∧ w.cell? ⟨B, 0, none⟩ = some (.slice (some ⟨g, 0, none⟩) ps.length c) ∧ c ≤ 9223372036854775807 ∧
  (∀ (k : Nat) (p : Pc), ps[k]? = some p → ∀ j, j < 5 → w.cell? ⟨g, k * 5 + j, none⟩ = (pcC p)[j]?) ∧ g < w.heap.size ∧ b0 ≤ B ∧ b0 ≤ g
def GivesSeq (w : World) (ps : List Pc) (e : Ending) (w' : World) : Prop := ∃ v, e = .returned v ∧ SeqAt w.heap.size w' v ps ∧ Below w.heap.size w w'
theorem Values_any (A : Option Addr) (n c : Nat) (w : World) : Calls Try.prog 83 #[.slice A n c] w fun e w' => e = .returned (.func (.func 96) #[] #[.pointer (some ⟨w.heap.size, 0, none⟩)]) ∧ w' = w.alloc (.cells #[.slice A n c] 139) := by
  go_enter Try.func83, Try.ntmps83
  go_wp2
  go_ret
  exact ⟨rfl, rfl⟩
set_option maxRecDepth 100000 in
set_option maxHeartbeats 3200000 in
theorem pieces_any (P x : Nat) (d : DDay) (w : World) (hd : DayOk d) (hp : PlanAt w P d) (hx : x < 2 ^ segN d.blocks) (h0 : x ≠ 0) :
    Calls Try.prog 66 #[.pointer (some ⟨P, 0, none⟩), .int .u16 (x : Int)] w (GivesSeq w (piecesL d (bitsL (segN d.blocks) x))) := by
  obtain ⟨i0, hi0, hz0, hz1, hz2⟩ := info_parts infoP
  obtain ⟨A1, A2, A3, c1, c2, c3, _, _, _, g10, _, _, hsg, hm3⟩ := hp.cells
  have hP := hp.lt
  have hs10 := hd.segs
  have h16 : x < 65536 := Nat.lt_of_lt_of_le hx (Nat.pow_le_pow_right (n := 2) (by omega) (by omega : segN d.blocks ≤ 16))
  have hb0 : Below w.heap.size w (w.alloc (.cells #[.pointer (some ⟨P, 0, none⟩)] 76)) := (Below.refl _ _).alloc (Nat.le_refl _) _
  have Hp := Lib.hid hp
  have Hd := Lib.hid hd
  clear hp hd
  go_enter Try.func66, Try.ntmps66
  go_wp2
  go_step3
  go_wp2
  go_step3
  go_wp2
  go_loopw [5, 14] (fun v j wr => ∃ (k : Nat) (A : Option Addr) (c : Nat), k ≤ segN d.blocks ∧ j = .int .i64 k ∧ v = .slice A (rawP (segs d.blocks) (bitsL k x)).length c ∧ Below w.heap.size w wr ∧ wr.heap[w.heap.size]? = some (.cells #[.pointer (some ⟨P, 0, none⟩)] 76 (0, 0)) ∧
    wr.ownsRow w.heap.size 126 5 v (rawP (segs d.blocks) (bitsL k x)).length (pcCells (rawP (segs d.blocks) (bitsL k x)))) (fun v j wr => segN d.blocks - (intOf j).toNat)
  case atStart => exact ⟨0, none, 0, by omega, rfl, by simp [bitsL, rawP], hb0, heap_alloc_new w _, by simpa [bitsL, rawP, pcCells] using World.ownsRow_nil _ w.heap.size 126 5⟩
  case round =>
    obtain ⟨k, A, c, hk, rfl, rfl, hb, hbox, hown⟩ := hrel
    obtain ⟨wq, rfl⟩ : ∃ wq : World, wq = wr := ⟨_, rfl⟩
    have hqs := hb.size
    have hPq : w.heap.size < wq.heap.size := (Array.getElem?_eq_some_iff.1 hbox).1
    have hbl := bitsL_len k x
    have hrl := rawP_le (segs d.blocks) (bitsL k x)
    have Hown := Lib.hid hown
    have Hbox := Lib.hid hbox
    clear hown hbox
    by_cases hlt : k < segN d.blocks
    · obtain ⟨B, o, s, rfl, hs, s0, s1, s2, s3, hB⟩ := hsg.at_ (k := k) (by rw [segs_length]; exact hlt)
      obtain ⟨b, i⟩ := s
      simp only at s0 s1 s2 s3
      replace s0 := cell_below hb s0
      replace s1 := cell_below hb s1
      replace s2 := cell_below hb s2
      replace s3 := cell_below hb s3
      have hBq : B < wq.heap.size := by omega
      have hba : Below w.heap.size w (wq.alloc (.cells #[.int .i64 (b : Int), .int .i64 (i : Int), .int .i64 (b : Int), .int .i64 ((i : Int) + 1)] 115)) := hb.alloc hqs _
      have Hl := Lib.hid (bitsL_succ k x)
      have Hh := Lib.hid (has_same x k (wq.alloc (.cells #[.int .i64 (b : Int), .int .i64 (i : Int), .int .i64 (b : Int), .int .i64 ((i : Int) + 1)] 115)) h16 (by omega))
      have Hraw := Lib.hid (fun h : x.testBit k = true => (by rw [bitsL_succ, h, if_pos rfl, rawP_snoc, hs]; rfl : rawP (segs d.blocks) (bitsL (k + 1) x) = addP (rawP (segs d.blocks) (bitsL k x)) (b, i) k))
      have hrl2 : (rawP (segs d.blocks) (bitsL k x)).length ≤ 10 := by omega
      clear hs hrl
      generalize hR : rawP (segs d.blocks) (bitsL k x) = R at *
      cases h1 : x.testBit k with
      | false =>
        rw [h1] at Hh Hl
        have HR := Lib.hid hR
        clear h1 hR
        go_wp2_with (go_at_call 61; refine Hh.out.mono ?_; rintro e w1 ⟨rfl, rfl⟩)
        go_roundw
        case rel =>
          refine ⟨k + 1, A, c, by omega, by go_num, ?_, hba, (Below.heap_alloc _ _ _ hPq).trans Hbox.out, ?_⟩
          · rw [Hl.out]; simp [HR.out]
          · rw [Hl.out]
            simp only [Bool.false_eq_true, if_false, List.append_nil, HR.out]
            exact Hown.out.alloc _
        case measure => simp [intOf]; omega
      | true =>
        rw [h1] at Hh
        have Hraw2 := Lib.hid (Hraw.out h1)
        clear h1 hR Hraw Hl
        rcases List.eq_nil_or_concat R with rfl | ⟨ps, p, rfl⟩
        · have hk2 : decide (0 < (([] : List Pc).length)) = false := rfl
          have hO : wq.ownsRow w.heap.size 126 5 (.slice A 0 c) 0 [] := Hown.out
          have HO := Lib.hid hO
          simp only [List.length_nil]
          clear hO Hown
          go_wp2_with (go_at_call 61; refine Hh.out.mono ?_; rintro e w1 ⟨rfl, rfl⟩)
          go_quiet (fail)
          go_wp2_with (at_builtin; go_loud (refine wpList_append_src _ rfl (.tmp 47) (.tmp 51) 139 rfl w.heap.size 126 i0 _ 5 40 Try.underlying139 hi0 hz0 hz1 hz2 rfl (by omega) _ 0 _ rfl (own_below HO.out ((drewN_below ((Below.refl _ _).alloc (Nat.le_refl _) _) _).alloc (by simp) _)) (some ⟨wq.heap.size + 1, 0, none⟩) 1 1 (pcN b i k) rfl (src_newN (xs := pcN b i k) rfl (by simp)) (by simp [pcN, Value.oneCell']) (by unfold maxLen; omega) (by omega) (by simp; omega) ?_; intro v1 w2 hown1 hg1 hat1; have Hg1 := Lib.hid hg1; obtain ⟨AA1, cc1, rfl⟩ := own_form hown1; have Hown1 := Lib.hid hown1; clear hown1 hg1 hat1))
          go_roundw
          case rel =>
            refine ⟨k + 1, AA1, cc1, by omega, by go_num, ?_, ?_, ?_, ?_⟩
            · rw [Hraw2.out]; simp [addP]
            · exact ((drewN_below hba _).alloc (by simp; omega) _).grown Hg1.out (by simp; omega) fun q hq => (HO.out.lt q hq).1
            · exact own_grow (o := .cells (pcN b i k).toArray 126 (0, 0)) (w := (wq.alloc (.cells #[.int .i64 (b : Int), .int .i64 (i : Int), .int .i64 (b : Int), .int .i64 ((i : Int) + 1)] 115)).drewN _) (own_below HO.out (drewN_below ((Below.refl _ _).alloc (Nat.le_refl _) _) _)) ((Below.heap_alloc _ _ _ hPq).trans Hbox.out) (by decide) Hg1.out
            · rw [Hraw2.out]
              have := Hown1.out
              simpa [addP, pcCells, pcC, pcN] using this
          case measure => simp [intOf]; omega
        · simp only [List.concat_eq_append] at *
          have hraw := addP_last ps p (b, i) k
          have Hraw2' := Hraw2
          have hlen : (ps ++ [p]).length = ps.length + 1 := by simp
          rw [hlen] at Hown hrl2 ⊢
          have hO := Hown.out
          obtain ⟨g, rfl, hgb, hgl⟩ := own_some hO (by omega)
          have r2 := hO.cellAt (ps.length * 5 + 2) (by omega)
          have r3 := hO.cellAt (ps.length * 5 + 3) (by omega)
          rw [pcCells_get (k := ps.length) (p := p) (by simp) (by omega)] at r2 r3
          simp only [pcC, List.getElem?_cons_succ, List.getElem?_cons_zero] at r2 r3
          have fr2 := hO.frozenAt (ps.length * 5 + 2)
          have fr3 := hO.frozenAt (ps.length * 5 + 3)
          have HO := Lib.hid hO
          have hnot := own_not hO Hbox.out (by decide)
          have hgw : w.heap.size ≠ g := fun e => hnot (by rw [← e]; rfl)
          have Hgw := Lib.hid hgw
          have hk2 : decide (0 < ps.length + 1) = true := by simp
          have q1 : IntKind.i64.wrap (ps.length : Int) = (ps.length : Int) := IntWalk.i64_in _ (by omega)
          have q2 : (ps.length : Int) < (ps.length : Int) + 1 := by omega
          by_cases hm : p.b = b ∧ p.to = i
          · rw [if_pos hm] at hraw
            have Hm := Lib.hid hm
            have Hraw3 := Lib.hid hraw
            have qe := fun w : World => spot_eql w (p.b : Int) (p.to : Int) (b : Int) (i : Int)
            have qv : ((p.b : Int) == (b : Int) && (p.to : Int) == (i : Int)) = true := by simp [hm]
            simp only [qv] at qe
            have qg := fun (w : World) (x y : Operand) => spot_guard w x y #[.int .i64 (p.b : Int), .int .i64 (p.to : Int)] #[.int .i64 (b : Int), .int .i64 (i : Int)]
            clear hm hraw hO hlen Hraw2 hnot hgw Hown
            go_wp2_with (go_at_call 61; refine Hh.out.mono ?_; rintro e w1 ⟨rfl, rfl⟩)
            go_quiet (fail)
            go_wp2
            go_roundw
            case rel =>
              have hO1 := own_below HO.out (drewN_below ((Below.refl wq.heap.size wq).alloc (Nat.le_refl _) (.cells #[.int .i64 (b : Int), .int .i64 (i : Int), .int .i64 (b : Int), .int .i64 ((i : Int) + 1)] 115 (0, 0))) nq)
              have hO2 := (hO1.stored (ps.length * 5 + 2) (.int .i64 (b : Int))).1
              have hO3 := (hO2.stored (ps.length * 5 + 2 + 1) (.int .i64 ((i : Int) + 1))).1
              have hset := pcCells_set ps p b i Hm.out.1
              have e1 : rawP (segs d.blocks) (bitsL (k + 1) x) = ps ++ [{ p with to := i + 1 }] := Hraw2'.out.trans Hraw3.out
              refine ⟨k + 1, some ⟨g, 0, none⟩, c, by omega, by go_num, by rw [e1]; simp, ?_, ?_, ?_⟩
              · exact ((drewN_below hba _).setCell (p := ⟨g, ps.length * 5 + 2, none⟩) hgb _).setCell (p := ⟨g, ps.length * 5 + 2 + 1, none⟩) hgb _
              · exact (Below.heap_setCell _ _ _ _ Hgw.out).trans ((Below.heap_setCell _ _ _ _ Hgw.out).trans ((Below.heap_alloc _ _ _ hPq).trans Hbox.out))
              · rw [e1, ← hset]
                have e2 : (ps ++ [{ p with to := i + 1 }]).length = ps.length + 1 := by simp
                rw [e2]
                exact hO3
            case measure => simp [intOf]; omega
          · rw [if_neg hm] at hraw
            have Hm := Lib.hid hm
            have Hraw3 := Lib.hid hraw
            have qe := fun w : World => spot_eql w (p.b : Int) (p.to : Int) (b : Int) (i : Int)
            have qv : ((p.b : Int) == (b : Int) && (p.to : Int) == (i : Int)) = false := by
              rw [Bool.eq_false_iff]
              intro h
              simp only [Bool.and_eq_true, beq_iff_eq] at h
              exact hm ⟨by omega, by omega⟩
            simp only [qv] at qe
            have qg := fun (w : World) (x y : Operand) => spot_guard w x y #[.int .i64 (p.b : Int), .int .i64 (p.to : Int)] #[.int .i64 (b : Int), .int .i64 (i : Int)]
            clear hm hraw hO hlen Hraw2 hnot hgw Hown qv
            go_wp2_with (go_at_call 61; refine Hh.out.mono ?_; rintro e w1 ⟨rfl, rfl⟩)
            go_quiet (fail)
            go_wp2_with (at_builtin; go_loud (refine wpList_append_src _ rfl (.tmp 47) (.tmp 51) 139 rfl w.heap.size 126 i0 _ 5 40 Try.underlying139 hi0 hz0 hz1 hz2 rfl (by omega) _ (ps.length + 1) _ rfl (own_below HO.out ((drewN_below ((Below.refl _ _).alloc (Nat.le_refl _) _) _).alloc (by simp) _)) (some ⟨wq.heap.size + 1, 0, none⟩) 1 1 (pcN b i k) rfl (src_newN (xs := pcN b i k) rfl (by simp)) (by simp [pcN, Value.oneCell']) (by unfold maxLen; omega) (by omega) (by simp; omega) ?_; intro v1 w2 hown1 hg1 hat1; have Hg1 := Lib.hid hg1; obtain ⟨AA1, cc1, rfl⟩ := own_form hown1; have Hown1 := Lib.hid hown1; clear hown1 hg1 hat1))
            go_roundw
            case rel =>
              have e1 : rawP (segs d.blocks) (bitsL (k + 1) x) = ps ++ [p, ⟨b, i, i + 1, k⟩] := Hraw2'.out.trans Hraw3.out
              have e2 : (ps ++ [p, ⟨b, i, i + 1, k⟩]).length = ps.length + 1 + 1 := by simp
              refine ⟨k + 1, AA1, cc1, by omega, by go_num, by rw [e1, e2], ?_, ?_, ?_⟩
              · exact ((drewN_below hba _).alloc (by simp; omega) _).grown Hg1.out (by simp; omega) fun q hq => (HO.out.lt q hq).1
              · exact own_grow (o := .cells (pcN b i k).toArray 126 (0, 0)) (w := (wq.alloc (.cells #[.int .i64 (b : Int), .int .i64 (i : Int), .int .i64 (b : Int), .int .i64 ((i : Int) + 1)] 115)).drewN _) (own_below HO.out (drewN_below ((Below.refl _ _).alloc (Nat.le_refl _) _) _)) ((Below.heap_alloc _ _ _ hPq).trans Hbox.out) (by decide) Hg1.out
              · rw [e1, e2, show ps ++ [p, ⟨b, i, i + 1, k⟩] = (ps ++ [p]) ++ [⟨b, i, i + 1, k⟩] by simp, pcCells_snoc, ← pcN_eq]
                exact Hown1.out
            case measure => simp [intOf]; omega
    · obtain rfl : k = segN d.blocks := by omega
      have hbn : bitsL (segN d.blocks) x ≠ [] := fun e => by
        have := mask_bitsL hx
        rw [e] at this
        exact h0 this.symm
      have hrise := bitsL_asc (segN d.blocks) x
      have hltn : ∀ n ∈ bitsL (segN d.blocks) x, n < segN d.blocks := fun n hn => (mem_bitsL.1 hn).1
      have hok := raw_ok (bl := d.blocks) _ hrise hltn
      have hne := hok.nonempty hbn
      have hps : ∀ p ∈ rawP (segs d.blocks) (bitsL (segN d.blocks) x), InDay d p.b p.fr ∧ p.first ≤ 1000 := fun p hp => by
        obtain ⟨k1, k2, k3, k4⟩ := hok.ok p hp
        have := hltn _ (hok.first p hp)
        exact ⟨⟨k1, by omega⟩, by omega⟩
      have hnd : ((rawP (segs d.blocks) (bitsL (segN d.blocks) x)).map (·.first)).Nodup := hok.asc.imp fun h => Nat.ne_of_lt h
      have hsl : (piecesL d (bitsL (segN d.blocks) x)).length = (rawP (segs d.blocks) (bitsL (segN d.blocks) x)).length := (srtP_perm _ _).length_eq
      have hp0 : 0 < (rawP (segs d.blocks) (bitsL (segN d.blocks) x)).length := List.length_pos_iff.2 hne
      have hpe : srtP d.blocks (rawP (segs d.blocks) (bitsL (segN d.blocks) x)) = piecesL d (bitsL (segN d.blocks) x) := rfl
      generalize rawP (segs d.blocks) (bitsL (segN d.blocks) x) = R at *
      generalize piecesL d (bitsL (segN d.blocks) x) = ps at *
      clear hrise hltn hok hbn
      have hO := Hown.out
      obtain ⟨g, rfl, hgb, hgl⟩ := own_some hO hp0
      have hnot := own_not hO Hbox.out (by decide)
      have hgw : w.heap.size ≠ g := fun e => hnot (by rw [← e]; rfl)
      have hQ : wq.cell? ⟨w.heap.size, 0, none⟩ = some (.pointer (some ⟨P, 0, none⟩)) := by rw [box_cells Hbox.out]; rfl
      have hcap : c ≤ 9223372036854775807 := by
        rcases hO.2 with ⟨h', _⟩ | ⟨g', cap', cur, h', _, _, _, hm', _⟩
        · cases h'
        · cases h'
          simpa [maxLen] using hm'
      have Hs := Lib.hid (sortPc_any P w.heap.size g c w.heap.size d R w wq Hd.out Hp.out hb hgb hQ hgw hne hps hnd (by omega) hO)
      rw [hpe] at Hs
      have Hsl := Lib.hid hsl
      clear hO hnot hgw hQ hps hnd hpe hne hsl
      go_wp2_with (first
        | (go_at_call 80; refine Hs.out.mono ?_; rintro e w1 ⟨rfl, hg1, hc1⟩; have Hg1 := Lib.hid hg1; have Hc1 := Lib.hid hc1; clear hg1 hc1)
        | (go_at_call 83; refine (Values_any _ _ _ _).mono ?_; rintro e w2 ⟨rfl, rfl⟩))
      go_ret
      have hw1 : Below w.heap.size w w1 := hb.grown Hg1.out hqs fun q hq => by cases hq; exact hgb
      have hgs : wq.heap.size ≤ w1.heap.size := Hg1.out.size
      have hw2 : Below w1.heap.size w1 (w1.alloc (.cells #[.slice (some ⟨g, 0, none⟩) R.length c] 139)) := (Below.refl _ _).alloc (Nat.le_refl _) _
      refine ⟨_, rfl, ⟨w1.heap.size, g, c, rfl, ?_, hcap, fun k p hk j hj => ?_, ?_, by omega, hgb⟩, hw1.trans (hw2.mono hw1.size)⟩
      · rw [Hsl.out]; simp [go_sem]
      · have h1 := Hc1.out k p hk j hj
        rw [← h1]
        exact hw2.cell (p := ⟨g, k * 5 + j, none⟩) (by simp only; omega)
      · simp; omega
end Go.Proofs.Ytllobkhdeahgpaa
namespace Go.Proofs.Ytllobkhdeahgpaa
open Go Go.RowKit Go.Shelf

/-! ### What is walked with no fence holds in a round -/
section
variable {P : Program} {ops : Array Oper} {Q : Exit → Act → World → Prop} {md : Region.Mode} {n l : Nat}

theorem rows_wide {row : String} {args : Array Value} {w : World} {R : Value → World → Prop} (h : Rows P row args w R) : RowsIn (Fence.wide.inRound l) n P row args w R :=
  fun c cs _ => let ⟨v, w', r, s⟩ := h c cs; ⟨v, w', r, stepsIn_wide.2 s⟩

def noDefer (o : Oper) : Bool := match o.op with | .defer _ => false | _ => true

theorem Oper.wp_inRound {o : Oper} {a : Act} {w : World} {K : Act → World → Prop} (hd : noDefer o = true) (h : o.wp P a w K Q) : o.wpIn (Fence.wide.inRound l) n P a w K Q := by
  unfold Oper.wpIn
  refine ⟨fun _ _ => trivial, ?_⟩
  rw [Oper.semAt_eq _ _ _ (fun c hc => by simp [noDefer, hc] at hd)]
  unfold Oper.wp at h
  generalize (execOp a.eval o).run P w = r at *
  cases r with
  | ok x w' =>
    cases x <;> simp only [Oper.upon, Oper.uponIn] at h ⊢
    case value => exact h
    case skip => exact h
    case defer => exact h
    case enter => exact ⟨fun h' => by simp [Fence.wide] at h', CallsIn.inRound l (callsIn_wide.2 h)⟩
    case row => exact ⟨fun h' => by simp [Fence.wide] at h', rows_wide h⟩
  | halt x w' => cases x <;> simp only [Oper.upon, Oper.uponIn] at h ⊢ <;> exact h

theorem wpOp_inRound {i : Nat} {K : Act → World → Prop} {a : Act} {w : World} (hd : ∀ o, ops[i]? = some o → noDefer o = true) (hq : ¬ LetsOut Q) (h : wpOp P ops Q i K a w) : wpOpIn (Fence.wide.inRound l) n P ops Q i K a w := by
  unfold wpOp at h
  unfold wpOpIn
  cases ho : ops[i]? with
  | none => simpa [ho] using h
  | some o =>
    simp only [ho] at h ⊢
    split at h
    · rename_i hw
      rw [if_pos hw]
      rcases h with h | h
      · exact Oper.wp_inRound (hd o ho) h
      · exact absurd h.2 hq
    · rename_i hw
      rw [if_neg hw]
      exact ⟨fun _ _ => trivial, h⟩

theorem wpAny_inRound (hd : ops.all noDefer = true) (hq : ¬ LetsOut Q) : ∀ (fuel : Nat) (listed : Array Bool) (a : Act) (w : World), wpAny P md ops Q fuel listed a w → wpAnyIn (Fence.wide.inRound l) n P md ops Q fuel listed a w
  | 0, _, _, _, h => h
  | fuel + 1, listed, a, w, h => ⟨h.1, fun i hi => wpOpIn_mono (fun a' w' h' => wpAny_inRound hd hq fuel _ a' w' h')
      (wpOp_inRound (fun o ho => by
        obtain ⟨hlt, rfl⟩ := Array.getElem?_eq_some_iff.1 ho
        exact Array.all_eq_true.1 hd i hlt) hq (h.2 i hi))⟩

variable {S : World → Prop} {kp : Nat → Bool}

/-- Two operations may come next. -/
theorem wpAnyF_two {i j : Nat} {oi oj : Oper} {fuel : Nat} {listed : Array Bool} {a : Act} {w : World} (hr : Region.ready md ops listed = [i, j]) (hi : ops[i]? = some oi) (hj : ops[j]? = some oj)
    (h1 : ∀ K' : Act → World → Prop, Hid (∀ a w, (kp i = true → S w) → wpAnyF P md ops Q S kp fuel (listed.setIfInBounds i true) a w → K' a w) → if Region.wanted oi (yielded ops a.tmps) = true then Oper.wp P oi a w K' Q else K' (a.put oi.dst undef) w)
    (h2 : ∀ K' : Act → World → Prop, Hid (∀ a w, (kp j = true → S w) → wpAnyF P md ops Q S kp fuel (listed.setIfInBounds j true) a w → K' a w) → if Region.wanted oj (yielded ops a.tmps) = true then Oper.wp P oj a w K' Q else K' (a.put oj.dst undef) w) :
    wpAnyF P md ops Q S kp (fuel + 1) listed a w := by
  refine ⟨fun h0 => (by rw [hr] at h0; cases h0), fun m hm => ?_⟩
  rw [hr] at hm
  rcases (by simpa using hm : m = i ∨ m = j) with rfl | rfl
  · exact wpOp_step hi fun K' hK => h1 K' fun a w hS hW => hK a w ⟨hS, hW⟩
  · exact wpOp_step hj fun K' hK => h2 K' fun a w hS hW => hK a w ⟨hS, hW⟩

/-- **In a round: a region that draws its order: these operations first (they only read, in every world that meets S), then whatever order is left.** -/
theorem wpIn_region_pickA {id : Nat} {a : Act} {w : World} {ol : List Oper} (fs : List Nat) (m : Nat) (kp : Nat → Bool) (S : World → Prop) (hm : P.follows .mixedOrders = true)
    (hB : (ol.toArray.all noDefer && (Region.noSelect ol.toArray && (frontPickB .any ol.toArray kp fs (Array.replicate ol.toArray.size false) && decide (fs.length + m = ol.length)))) = true)
    (hq : ¬ LetsOut Q) (hQ : ∀ c a d v w, Q (.panic c) (a.put d v) w → Q (.panic c) a w) (hS : S w.drew)
    (h : Nonempty (Meets S) → wpQuiet P ol.toArray (fun w' => ∃ x : Meets S, w' = x.val) (fun a' => wpAnyF P .any ol.toArray Q S kp m (listAll fs (Array.replicate ol.toArray.size false)) a' w.drew) (pick ol fs) a) :
    (Code.region id ol.toArray true).wpIn (Fence.wide.inRound l) n P Q a w := by
  simp only [Bool.and_eq_true, decide_eq_true_eq] at hB
  obtain ⟨h0, h1, h2, h3⟩ := hB
  refine wpIn_region_any hm (wpAny_inRound h0 hq _ _ _ _ (wpAny_of_front (S := S) (kp := kp) _ _ _ _ ?_))
  have hq' := h ⟨⟨w.drew, hS⟩⟩
  have := wpAnyF_pick (P := P) (ops := ol.toArray) (Q := Q) (md := .any) (S := S) (kp := kp) h1 hQ m fs (Array.replicate ol.toArray.size false) a w.drew h2 hS (by simpa using hq')
  rw [h3] at this
  simpa using this
end
theorem grown_below {w w' : World} (h : Below w.heap.size w w') : w.grownBy w' none :=
  ⟨h.os, h.tape, h.output, h.size, fun k hk _ => h.block k hk⟩
theorem keeps_below {w w' : World} (h : Below w.heap.size w w') : KeepsOthers w w' :=
  ⟨h.size, fun k o hk _ => (h.block k (Array.getElem?_eq_some_iff.1 hk).1).trans hk⟩

/-- The blocks of X are kept. -/
def Keep (X : Nat → Prop) (W W' : World) : Prop := ∀ k, X k → W'.heap[k]? = W.heap[k]?
theorem Keep.refl (X : Nat → Prop) (W : World) : Keep X W W := fun _ _ => rfl
theorem Keep.trans {X : Nat → Prop} {A B C : World} (h : Keep X A B) (k : Keep X B C) : Keep X A C := fun i hi => (k i hi).trans (h i hi)
theorem Keep.cell {X : Nat → Prop} {A B : World} (h : Keep X A B) {p : Addr} {v : Value} (hp : X p.block) (hc : A.cell? p = some v) : B.cell? p = some v := by
  rw [← hc]
  unfold World.cell?
  rw [h _ hp]
theorem Keep.below {X : Nat → Prop} {A B : World} {n : Nat} (hX : ∀ k, X k → k < n) (h : Below n A B) : Keep X A B := fun k hk => h.block k (hX k hk)

theorem Keep.lt {X : Nat → Prop} {A B : World} (h : Keep X A B) {k : Nat} (hk : X k) (hA : k < A.heap.size) : k < B.heap.size := by
  have h1 := h k hk
  rw [Array.getElem?_eq_getElem hA] at h1
  exact (Array.getElem?_eq_some_iff.1 h1).1

/-- The first k of n places. -/
def ups (n k : Nat) : List { j : Nat // j < n } := (List.range k).filterMap fun j => if h : j < n then some ⟨j, h⟩ else none
theorem ups_succ {n k : Nat} (h : k < n) : ups n (k + 1) = ups n k ++ [⟨k, h⟩] := by simp [ups, List.range_succ, List.filterMap_append, h]
theorem ups_length {n k : Nat} (h : k ≤ n) : (ups n k).length = k := by
  induction k with
  | zero => rfl
  | succ k ih => rw [ups_succ (by omega)]; simp [ih (by omega)]

theorem heap_setCell_other (W : World) (g o : Nat) (v : Value) {k : Nat} (h : k ≠ g) : (W.setCell ⟨g, o, none⟩ v).heap[k]? = W.heap[k]? := by
  show (W.heap.modify g _)[k]? = _
  rw [Array.getElem?_modify, if_neg (fun e => h e.symm)]
theorem Keep.setCell {X : Nat → Prop} {A B : World} (h : Keep X A B) {g : Nat} (hg : ¬ X g) (o : Nat) (v : Value) : Keep X A (B.setCell ⟨g, o, none⟩ v) :=
  fun k hk => (heap_setCell_other B g o v (fun e => hg (e ▸ hk))).trans (h k hk)
theorem wpSeqP_name {P : Program} {ops : Array Oper} {Q : Exit → Act → World → Prop} {S : World → Prop} {kp : Nat → Bool} {l : List (Nat × Oper)} {a : Act} {w : World} (F : World → Prop) (hF : F w) (h : ∀ W, F W → wpSeqP P ops Q S kp l a W) : wpSeqP P ops Q S kp l a w := h w hF

/-- The marks that the loops over an iterator have left behind. -/
def marks (ds : List Nat) : List Deferred := ds.map fun D => { target := .collected D, args := #[] }

/-- Marks whose blocks lie open. -/
def OpenMarks (n₀ : Nat) (W : World) (ds : List Nat) : Prop := ds.Nodup ∧ ∀ d ∈ ds, n₀ ≤ d ∧ W.heap[d]? = some (.deferred (some []))

theorem OpenMarks.keeps {n₀ : Nat} {W W' : World} {ds : List Nat} (h : OpenMarks n₀ W ds) (k : KeepsOthers W W') : OpenMarks n₀ W' ds :=
  ⟨h.1, fun d hd => ⟨(h.2 d hd).1, k.same d _ (h.2 d hd).2 rfl⟩⟩

theorem OpenMarks.own {β : Type} {B n₀ : Nat} {ds : List Nat} (hB : ∀ d ∈ ds, d < B) : OwnFrom B (fun (_ : β) W => OpenMarks n₀ W ds) := fun s W W' row h hg hr =>
  ⟨h.1, fun d hd => ⟨(h.2 d hd).1, (hg.block d (Array.getElem?_eq_some_iff.1 (h.2 d hd).2).1 (fun e => by have := (hr d e.symm).1; have := hB d hd; omega)).trans (h.2 d hd).2⟩⟩

theorem size_own {β : Type} {B n₀ : Nat} : OwnFrom B (fun (_ : β) W => n₀ ≤ W.heap.size) := fun s W W' row h hg hr => Nat.le_trans h hg.size

theorem leaves_marks {F : Fence} {n : Nat} {P : Program} {fn : Func} {tmps : Array Value} {R : Ending → World → Prop} (n₀ : Nat) : ∀ (ds : List Nat) (W : World), OpenMarks n₀ W ds →
    (∀ W', Below n₀ W W' → (∀ (k : Nat) (o : Obj), W.heap[k]? = some o → o.isCells = true → W'.heap[k]? = some o) → ∃ v, (results fn tmps).run P W' = .ok v W' ∧ R (.returned v) W') →
    LeavesInM F n P fn tmps R (marks ds) .returning W
  | [], W, _, h => h W (Below.refl _ _) (fun _ _ hk _ => hk)
  | d :: ds, W, ho, h => by
    obtain ⟨hnd, ha⟩ := ho
    obtain ⟨hd0, hd⟩ := ha d (by simp)
    simp only [List.nodup_cons] at hnd
    refine ⟨by simp, .inl ⟨d, _, rfl, run_takeDeferred hd, ?_⟩⟩
    have hb : Below n₀ W (W.putObj d (.deferred none)) := ⟨rfl, rfl, rfl, by simp [World.putObj], fun k hk => World.putObj_heap_other (by omega)⟩
    refine leaves_marks n₀ ds _ ⟨hnd.2, fun x hx => ⟨(ha x (by simp [hx])).1, ?_⟩⟩ (fun W' hb' hk' => h W' (hb.trans hb') (fun k o hk hc => hk' k o ?_ hc))
    · rw [World.putObj_heap_other (fun e => hnd.1 (by rw [← e]; exact hx))]
      exact (ha x (by simp [hx])).2
    · rw [World.putObj_heap_other (fun e => by subst e; rw [hd] at hk; cases hk; simp [Obj.isCells] at hc)]
      exact hk


section
variable {P : Program} {Q : Exit → Act → World → Prop} {n l : Nat}
theorem wpIn_region_noPanic {F : Fence} {id : Nat} {ops : Array Oper} {b : Bool} {a : Act} {w : World} (h : (Code.region id ops b).wpIn F n P (NoPanic Q) a w) : (Code.region id ops b).wpIn F n P Q a w :=
  wpIn_mono h NoPanic.imp
/-- In a round: reads in any order first, then a forced order. -/
theorem wpIn_region_pick {id : Nat} {a : Act} {w : World} {ol : List Oper} (fs rs : List Nat) (kp : Nat → Bool) (S : World → Prop) (hm : P.follows .mixedOrders = true)
    (hB : (ol.toArray.all noDefer && (Region.noSelect ol.toArray && (frontPickB .any ol.toArray kp fs (Array.replicate ol.toArray.size false) && (seqPickB .any ol.toArray rs (listAll fs (Array.replicate ol.toArray.size false)) && (decide (fs.length + rs.length = ol.length) && rs.all fun i => decide (i < ol.length)))))) = true)
    (hq : ¬ LetsOut Q) (hQ : ∀ c a d v w, Q (.panic c) (a.put d v) w → Q (.panic c) a w) (hS : S w.drew)
    (h : Nonempty (Meets S) → wpQuiet P ol.toArray (fun w' => ∃ x : Meets S, w' = x.val) (fun a' => wpSeqP P ol.toArray Q S kp (pickN ol rs) a' w.drew) (pick ol fs) a) : (Code.region id ol.toArray true).wpIn (Fence.wide.inRound l) n P Q a w := by
  simp only [Bool.and_eq_true, decide_eq_true_eq] at hB
  obtain ⟨h0, h1, h2, h3, h4, h5⟩ := hB
  refine wpIn_region_any hm (wpAny_inRound h0 hq _ _ _ _ (wpAny_of_front (S := S) (kp := kp) _ _ _ _ ?_))
  have hqq := h ⟨⟨w.drew, hS⟩⟩
  have := wpAnyF_pick (P := P) (ops := ol.toArray) (Q := Q) (md := .any) (S := S) (kp := kp) h1 hQ rs.length fs (Array.replicate ol.toArray.size false) a w.drew h2 hS (by
    refine wpQuiet_mono (fun a' h' => ?_) _ _ hqq
    refine wpAnyF_of_pick rs _ a' w.drew (fun i hi => ?_) h3 h'
    have := List.all_eq_true.1 h5 i hi
    simpa using this)
  rw [h4] at this
  simpa using this
/-- In a round: phases. -/
theorem wpIn_region_ph {id : Nat} {a : Act} {w : World} {ol : List Oper} (ph : List (List Nat × List Nat)) (kp : Nat → Bool) (S : World → Prop) (hm : P.follows .mixedOrders = true)
    (hB : (ol.toArray.all noDefer && (Region.noSelect ol.toArray && (phB .any ol.toArray kp ph (Array.replicate ol.toArray.size false) && decide (phLen ph = ol.length)))) = true)
    (hq : ¬ LetsOut Q) (hQ : ∀ c a d v w, Q (.panic c) (a.put d v) w → Q (.panic c) a w)
    (h : wpPh P ol.toArray Q S kp ph a w.drew) : (Code.region id ol.toArray true).wpIn (Fence.wide.inRound l) n P Q a w := by
  simp only [Bool.and_eq_true, decide_eq_true_eq] at hB
  obtain ⟨h0, h1, h2, h3⟩ := hB
  refine wpIn_region_any hm (wpAny_inRound h0 hq _ _ _ _ (wpAny_of_front (S := S) (kp := kp) _ _ _ _ ?_))
  have := wpAnyF_ph (P := P) (Q := Q) (S := S) h1 hQ ph (Array.replicate ol.toArray.size false) a w.drew h2 h
  rw [h3] at this
  simpa using this
/-- In a round: reads, and calls that hand back known values. -/
theorem wpIn_region_later {id : Nat} {a : Act} {w : World} {ol : List Oper} (hm : P.follows .mixedOrders = true) (hB : (ol.toArray.all noDefer && Region.lexB .any ol.toArray) = true) (hq : ¬ LetsOut Q)
    (h : wpQuiet P ol.toArray (fun w' => ∃ x : Later w, w' = x.val) (fun a' => ∀ w', (∃ x : Later w, w' = x.val) → Q .normal a' w') ol a) : (Code.region id ol.toArray true).wpIn (Fence.wide.inRound l) n P Q a w := by
  simp only [Bool.and_eq_true] at hB
  obtain ⟨h0, hB⟩ := hB
  simp only [Region.lexB, Bool.and_eq_true] at hB
  refine wpIn_region_any hm (wpAny_inRound h0 hq _ _ _ _ (wpAny_of_quiet (C := fun w' => ∃ x : Later w, w' = x.val) (Q := fun a' => ∀ w', (∃ x : Later w, w' = x.val) → Q .normal a' w') (fun _ w' hw' h => h w' hw') _ _ _ _ ⟨⟨w.drew, (Below.refl _ _).drew⟩, rfl⟩ ?_))
  have := wpAnyQ_lex (C := fun w' => ∃ x : Later w, w' = x.val) (md := .any) hB.1 ol 0 (Array.replicate ol.toArray.size false) a (by simp) (by simpa using hB.2) h
  simpa using this
end
/-- A call of a function value among reads. -/
theorem wpQuiet_callv {P : Program} {ops : Array Oper} {w : World} {Q : Act → Prop} {o : Oper} {rest : List Oper} {a : Act} (x : Operand) (args : List Operand) (tys : Array TypeId) (hg : o.guard = none)
    (hop : o.op = .call { callee := .value x, args := args.toArray, argTypes := tys }) (f : Value) (hf : a.eval x = f) (az : List Value) (has : args.map a.eval = az) (v : Value) (hcall : ∀ X : Later w, CallsVal P f az.toArray X.val (Gives X.val v))
    (hk : wpQuiet P ops (fun w' => ∃ x : Later w, w' = x.val) Q rest (a.put o.dst v)) : wpQuiet P ops (fun w' => ∃ x : Later w, w' = x.val) Q (o :: rest) a := by
  have hw : Region.wanted o (yielded ops a.tmps) = true := by simp [Region.wanted, hg]
  unfold wpQuiet
  rw [if_pos hw]
  refine ⟨v, fun w' hw' => ?_, hk⟩
  obtain ⟨X, rfl⟩ := hw'
  obtain ⟨g, az', hrun, hc⟩ := hcall X
  unfold Oper.quietAt execOp
  simp only [hop, resolve, hf, List.map_toArray, has]
  simp only [Sem.run_bind] at hrun ⊢
  rw [hrun]
  exact ⟨rfl, hc.mono fun e w'' ⟨he, hb⟩ => ⟨he, ⟨w'', X.property.trans (hb.mono X.property.size)⟩, rfl⟩⟩
end Go.Proofs.Ytllobkhdeahgpaa
namespace Go.Proofs.Ytllobkhdeahgpaa
open Go Go.Proofs Go.RowKit Go.Shelf

attribute [local go_sem] Oper.semAt_some

/-- The piece that the iterator hands over in round x. -/
def pcV (p : Pc) : Value := .agg #[.int .i64 (p.b : Int), .int .i64 (p.fr : Int), .int .i64 (p.b : Int), .int .i64 (p.to : Int), .int .i64 (p.first : Int)]
def pcE (ps : List Pc) (x : { j : Nat // j < ps.length }) : Array Value := #[pcV ps[x.1]]
/-- The slice that is walked, in its box. -/
structure SeqIn (X : Nat → Prop) (w : World) (B g : Nat) (ps : List Pc) (c : Nat) : Prop where
  box : X B
  row : X g
  c0 : w.cell? ⟨B, 0, none⟩ = some (.slice (some ⟨g, 0, none⟩) ps.length c)
  cells : ∀ (k : Nat) (p : Pc), ps[k]? = some p → ∀ j, j < 5 → w.cell? ⟨g, k * 5 + j, none⟩ = (pcC p)[j]?
theorem SeqIn.kept {X : Nat → Prop} {w w' : World} {B g : Nat} {ps : List Pc} {c : Nat} (h : SeqIn X w B g ps c) (k : Keep X w w') : SeqIn X w' B g ps c :=
  ⟨h.box, h.row, k.cell h.box h.c0, fun i p hp j hj => by
    have h1 := h.cells i p hp j hj
    have hl : j < (pcC p).length := hj
    rw [List.getElem?_eq_getElem hl] at h1 ⊢
    exact k.cell h.row h1⟩

set_option maxRecDepth 100000 in
set_option maxHeartbeats 2000000 in
theorem values1_in (n : Nat) (hn : 1 ≤ n) (id B g : Nat) (X : Nat → Prop) (ps : List Pc) (c : Nat) (hl : ps.length ≤ 1000) (hc : c ≤ 9223372036854775807)
    (J Jx : List { j : Nat // j < ps.length } → World → Prop) (W : World) (hXW : ∀ k, X k → k < W.heap.size)
    (hJ : AbidesFrom W.heap.size J) (hY : ∀ pre x W1, J pre W1 → pre.length < ps.length → YieldAt Fence.wide (n - 1) Try.prog id (pcE ps x) W1 fun e W' =>
      (e = .returned (.bool true) ∧ J (pre ++ [x]) W' ∧ Keep X W1 W') ∨ (e = .returned (.bool false) ∧ Jx (pre ++ [x]) W'))
    (hL : SeqIn X W B g ps c) (hst : J [] W) :
    CallsIn Fence.wide n Try.prog 96 #[.func (.yield id) #[] #[], .pointer (some ⟨B, 0, none⟩)] W fun e W' => (∃ v, e = .returned v) ∧
      ((∃ ys, ys = ups ps.length ps.length ∧ J ys W') ∨ (∃ pre, True ∧ Jx pre W')) := by
  refine callsIn_of_wp Try.func96 rfl trivial ?_ rfl
  simp only [Try.ntmps96, List.size_toArray, List.length_cons, List.length_nil, Nat.reduceAdd, Nat.reduceSub, Array.replicate_succ, Array.replicate_zero, List.push_toArray, List.append_toArray, List.nil_append, List.cons_append]
  have g0 := hL.c0
  gi_wp2
  clear g0
  gi_loopw [7] (fun i wr => ∃ k : Nat, k ≤ ps.length ∧ i = .int .i64 k ∧ J (ups ps.length k) wr ∧ Keep X W wr)
    (fun i _ => ps.length - (intOf i).toNat)
  case atStart => exact ⟨0, Nat.zero_le _, rfl, hst, Keep.refl _ _⟩
  case round =>
    obtain ⟨k, hk, rfl, hJs, hnx⟩ := hrel
    have hXr : ∀ j, X j → j < wr.heap.size := fun j hj => hnx.lt hj (hXW j hj)
    by_cases hlt : k < ps.length
    · have hLr := hL.kept hnx
      have hx := hLr.cells k _ (List.getElem?_eq_getElem hlt)
      have x0 := hx 0 (by omega)
      have x1 := hx 1 (by omega)
      have x2 := hx 2 (by omega)
      have x3 := hx 3 (by omega)
      have x4 := hx 4 (by omega)
      simp only [pcC, List.getElem?_cons_zero, List.getElem?_cons_succ, Nat.add_zero] at x0 x1 x2 x3 x4
      clear hx
      have hin := fun W2 hJ2 => hY (ups ps.length k) ⟨k, hlt⟩ W2 hJ2 (by rw [ups_length hk]; exact hlt)
      simp only [pcE, pcV] at hin
      obtain ⟨p, hp⟩ : ∃ p, ps[k] = p := ⟨_, rfl⟩
      rw [hp] at x0 x1 x2 x3 x4
      simp only [hp] at hin
      obtain ⟨fn, tmps, assign, body, hy, hR⟩ := hin (wr.alloc (.cells #[.int .i64 (p.b : Int), .int .i64 (p.fr : Int), .int .i64 (p.b : Int), .int .i64 (p.to : Int), .int .i64 (p.first : Int)] 126)) (hJ _ _ _ none hJs (World.grownBy_alloc _ _ _) (fun r e => by cases e))
      gi_wp2
      refine hR.mono ?_
      rintro e W3 (⟨rfl, hJ3, hk3⟩ | ⟨rfl, hJx3⟩)
      · gi_wp2
        go_roundw
        case rel => exact ⟨k + 1, by omega, by simp, by rw [ups_succ hlt]; exact hJ3, hnx.trans ((Keep.below hXr ((Below.refl _ _).alloc (Nat.le_refl _) _)).trans hk3)⟩
        case measure => simp [intOf]; omega
      · gi_wp2
        refine bodyPost_ret (results_none rfl _ _ _) rfl ?_
        exact ⟨⟨_, rfl⟩, .inr ⟨_, trivial, hJx3⟩⟩
    · obtain rfl : k = ps.length := by omega
      gi_wp2
      go_end0
      exact ⟨⟨_, rfl⟩, .inl ⟨_, rfl, hJs⟩⟩
theorem values_stops (n : Nat) (hn : 1 ≤ n) (B g : Nat) (X : Nat → Prop) (ps : List Pc) (c : Nat) (hl : ps.length ≤ 1000) (hc : c ≤ 9223372036854775807) (w : World) (hXw : ∀ k, X k → k < w.heap.size) (hL : SeqIn X w B g ps c) :
    SeqStopsK Fence.wide n Try.prog 96 #[.pointer (some ⟨B, 0, none⟩)] (pcE ps) (Keep X) (fun ys => ys = ups ps.length ps.length) (fun _ => True) ps.length w := fun id J Jx W hW hJ _ hY hst =>
  values1_in n hn id B g X ps c hl hc J Jx W (fun k hk => Nat.lt_of_lt_of_le (hXw k hk) hW.size) hJ hY (hL.kept (Keep.below hXw hW)) hst
end Go.Proofs.Ytllobkhdeahgpaa
namespace Go.Proofs.Ytllobkhdeahgpaa
open Go Go.Proofs Go.RowKit Go.Shelf

theorem step_append_src {P : Program} (w : World) {ops : Array Oper} {o : Oper} {a : Act} {K : Act → World → Prop} {Q : Exit → Act → World → Prop} {E : Prop} (hgd : o.guard = none) (s x : Operand) (t : TypeId)
    (ho : o.op = .call { callee := .builtin .append, args := #[s, x], argTypes := #[t, t] })
    (base : Nat) (e : TypeId) (i : TypeInfo) (z : Value) (size bytes : Nat) (ht : P.underlying t = some (.slice e)) (hi : P.info? e = some i) (hz : i.zero = some z)
    (hsize : i.size = size) (hby : i.bytes = bytes) (hzs : z.cells.size = size) (hsz : 0 < size)
    (v : Value) (n : Nat) (xs : List Value) (hs : a.eval s = v) (hown : w.ownsRow base e size v n xs)
    (A : Option Addr) (m c : Nat) (news : List Value) (hx : a.eval x = .slice A m c) (hr : Src w A m size news) (h1 : ∀ u ∈ news, u.oneCell' = true)
    (h63 : n + m ≤ maxLen) (hbytes : (n + m) * bytes ≤ 140737488355328) (hbase : base ≤ w.heap.size)
    (h : ∀ A' c' w', w'.ownsRow base e size (.slice A' (n + m) c') (n + m) (xs ++ news) → w.grownBy w' v.ownBlock → ((Value.slice A' (n + m) c').ownBlock = v.ownBlock ∨ (Value.slice A' (n + m) c').ownBlock = some w.heap.size) → K (a.put o.dst (.slice A' (n + m) c')) w') :
    if Region.wanted o (yielded ops a.tmps) = true then Oper.wp P o a w K Q else E := by
  have hw : Region.wanted o (yielded ops a.tmps) = true := by simp [Region.wanted, hgd]
  rw [if_pos hw]
  refine wp_append_src w s x t ho base e i z size bytes ht hi hz hsize hby hzs hsz v n xs hs hown A m c news hx hr h1 h63 hbytes hbase fun v' w' h2 h3 h4 => ?_
  obtain ⟨A', c', rfl⟩ := own_form h2
  exact h A' c' w' h2 h3 h4
theorem wpListIn_append_src {P : Program} (w : World) {n l : Nat} {ops : Array Oper} {rest : List Oper} {o : Oper} {a : Act} {Q : Exit → Act → World → Prop} (hgd : o.guard = none) (s x : Operand) (t : TypeId)
    (ho : o.op = .call { callee := .builtin .append, args := #[s, x], argTypes := #[t, t] })
    (base : Nat) (e : TypeId) (i : TypeInfo) (z : Value) (size bytes : Nat) (ht : P.underlying t = some (.slice e)) (hi : P.info? e = some i) (hz : i.zero = some z)
    (hsize : i.size = size) (hby : i.bytes = bytes) (hzs : z.cells.size = size) (hsz : 0 < size)
    (v : Value) (k : Nat) (xs : List Value) (hs : a.eval s = v) (hown : w.ownsRow base e size v k xs)
    (A : Option Addr) (m c : Nat) (news : List Value) (hx : a.eval x = .slice A m c) (hr : Src w A m size news) (h1 : ∀ u ∈ news, u.oneCell' = true)
    (h63 : k + m ≤ maxLen) (hbytes : (k + m) * bytes ≤ 140737488355328) (hbase : base ≤ w.heap.size)
    (h : ∀ A' c' w', w'.ownsRow base e size (.slice A' (k + m) c') (k + m) (xs ++ news) → w.grownBy w' v.ownBlock → ((Value.slice A' (k + m) c').ownBlock = v.ownBlock ∨ (Value.slice A' (k + m) c').ownBlock = some w.heap.size) →
      wpListIn (Fence.wide.inRound l) n P ops Q rest (a.put o.dst (.slice A' (k + m) c')) w') : wpListIn (Fence.wide.inRound l) n P ops Q (o :: rest) a w := by
  refine wpListIn_plain hgd fun K hK => Oper.wp_inRound (by simp [noDefer, ho]) ?_
  refine wp_append_src w s x t ho base e i z size bytes ht hi hz hsize hby hzs hsz v k xs hs hown A m c news hx hr h1 h63 hbytes hbase fun v' w' h2 h3 h4 => ?_
  obtain ⟨A', c', rfl⟩ := own_form h2
  exact hK _ _ (h A' c' w' h2 h3 h4)

/-! ### Worlds that differ in some blocks -/
structure Chg (R : Nat → Prop) (W W' : World) : Prop where
  os : W'.os = W.os
  tape : W'.tape = W.tape
  output : W'.output = W.output
  size : W.heap.size ≤ W'.heap.size
  block : ∀ k, k < W.heap.size → ¬ R k → W'.heap[k]? = W.heap[k]?
  others : ∀ (k : Nat) (o : Obj), W.heap[k]? = some o → o.isCells = false → W'.heap[k]? = some o
section
variable {R : Nat → Prop} {A B C : World}
theorem Chg.refl (R : Nat → Prop) (W : World) : Chg R W W := ⟨rfl, rfl, rfl, Nat.le_refl _, fun _ _ _ => rfl, fun _ _ h _ => h⟩
theorem Chg.trans (h : Chg R A B) (k : Chg R B C) : Chg R A C :=
  ⟨k.os.trans h.os, k.tape.trans h.tape, k.output.trans h.output, Nat.le_trans h.size k.size, fun i hi hr => (k.block i (Nat.lt_of_lt_of_le hi h.size) hr).trans (h.block i hi hr), fun i o hi ho => k.others i o (h.others i o hi ho) ho⟩
theorem Chg.of_below (h : Below A.heap.size A B) : Chg R A B := ⟨h.os, h.tape, h.output, h.size, fun k hk _ => h.block k hk, fun k o hk _ => (h.block k (Array.getElem?_eq_some_iff.1 hk).1).trans hk⟩
theorem Chg.set (W : World) {p : Addr} (hp : R p.block) (u : Value) : Chg R W (W.setCell p u) :=
  ⟨rfl, rfl, rfl, by simp [World.setCell], fun k _ hr => Below.heap_setCell W p u k (fun e => hr (e ▸ hp)), fun k o hk ho => (KeepsOthers.setCell W p u).same k o hk ho⟩
theorem Chg.cell (h : Chg R A B) {p : Addr} {v : Value} (hp : ¬ R p.block) (hc : A.cell? p = some v) : B.cell? p = some v := by
  rw [← hc]
  exact World.cell?_of_block (h.block _ (World.block_lt_of_cell? _ _ hc) hp)
theorem Chg.keep {X : Nat → Prop} (h : Chg R A B) (hX : ∀ k, X k → k < A.heap.size ∧ ¬ R k) : Keep X A B := fun k hk => h.block k (hX k hk).1 (hX k hk).2
theorem Chg.below {n : Nat} {W : World} (hb : Below n W A) (h : Chg R A B) (hn : n ≤ A.heap.size) (hR : ∀ k, R k → n ≤ k) : Below n W B :=
  hb.trans ⟨h.os, h.tape, h.output, h.size, fun k hk => h.block k (Nat.lt_of_lt_of_le hk hn) (fun hr => by have := hR k hr; omega)⟩
theorem Chg.keepsOthers (h : Chg R A B) : KeepsOthers A B := ⟨h.size, h.others⟩
theorem Chg.grown {base : Nat} {e : TypeId} {size n : Nat} {v : Value} {xs : List Value} (hown : A.ownsRow base e size v n xs) (hg : A.grownBy B v.ownBlock) (hR : ∀ k, base ≤ k → R k) : Chg R A B := by
  refine ⟨hg.os, hg.tape, hg.output, hg.size, fun k hk hr => hg.block k hk (fun e => hr (hR k (hown.lt k e.symm).1)), fun k o hk ho => ?_⟩
  refine (hg.block k (Array.getElem?_eq_some_iff.1 hk).1 (fun e => ?_)).trans hk
  rcases hown.2 with ⟨rfl, _⟩ | ⟨g, cap, cur, rfl, _, hgc, _⟩
  · simp [Value.ownBlock] at e
  · simp only [Value.ownBlock, Option.some.injEq] at e
    subst e
    rw [hgc] at hk
    cases hk
    simp [Obj.isCells] at ho
end
/-- Rows that lie in different blocks. -/
def Apart (v u : Value) : Prop := ∀ g, v.ownBlock = some g → u.ownBlock ≠ some g
theorem Apart.symm {v u : Value} (h : Apart v u) : Apart u v := fun g hu hv => h g hv hu
theorem Apart.keep {W W' : World} {base : Nat} {e : TypeId} {size n : Nat} {v u : Value} {xs : List Value} (h : W.ownsRow base e size u n xs) (ha : Apart v u) (hg : W.grownBy W' v.ownBlock) : W'.ownsRow base e size u n xs := by
  refine h.kept hg ?_
  cases hu : u.ownBlock with
  | none => left; rfl
  | some g =>
    right
    intro e
    exact ha g e.symm hu

/-- The blocks that do writes to. -/
def DoR (N M k : Nat) : Prop := (N + 1 + 1 + 1 ≤ k ∧ k < N + 7) ∨ M ≤ k
/-- The memory of do. -/
structure DoW (N M P : Nat) (u v : Value) (W : World) (f l bb bi : Int) (v1 v2 v3 : Value) (n1 n2 n3 : Nat) (x1 x2 x3 : List Value) : Prop where
  b0 : W.heap[N]? = some (.cells #[.pointer (some ⟨P, 0, none⟩)] 76 (0, 0))
  b1 : W.heap[N + 1]? = some (.cells #[u, v] 109 (0, 0))
  b2 : W.heap[N + 1 + 1]? = some (.cells #[.slice none 0 0, .slice none 0 0, .slice none 0 0, .int .i64 0] 106 (0, 0))
  b3 : W.heap[N + 1 + 1 + 1]? = some (.cells #[v1, v2, v3, .int .i64 0] 106 (0, 0))
  b4 : W.heap[N + 1 + 1 + 1 + 1]? = some (.cells #[.int .i64 f] 3 (0, 0))
  b5 : W.heap[N + 1 + 1 + 1 + 1 + 1]? = some (.cells #[.int .i64 l] 3 (0, 0))
  b6 : W.heap[N + 1 + 1 + 1 + 1 + 1 + 1]? = some (.cells #[.int .i64 bb, .int .i64 bi] 103 (0, 0))
  o1 : W.ownsRow M 3 1 v1 n1 x1
  o2 : W.ownsRow M 3 1 v2 n2 x2
  o3 : W.ownsRow M 3 1 v3 n3 x3
  a12 : Apart v1 v2
  a13 : Apart v1 v3
  a23 : Apart v2 v3
  hM : N + 7 ≤ M
  hW : M ≤ W.heap.size
section
variable {N M P : Nat} {u v : Value} {W W' : World} {f l bb bi : Int} {v1 v2 v3 : Value} {n1 n2 n3 : Nat} {x1 x2 x3 : List Value}
/-- From the old blocks alone. -/
theorem DoW.keep (h : DoW N M P u v W f l bb bi v1 v2 v3 n1 n2 n3 x1 x2 x3) (hs : W.heap.size ≤ W'.heap.size) (hk : ∀ (k : Nat) (xs : Array Value) (t : TypeId) (fr : Nat × Nat), W.heap[k]? = some (.cells xs t fr) → W'.heap[k]? = some (.cells xs t fr)) : DoW N M P u v W' f l bb bi v1 v2 v3 n1 n2 n3 x1 x2 x3 := by
  have own : ∀ {v : Value} {n : Nat} {xs : List Value}, W.ownsRow M 3 1 v n xs → W'.ownsRow M 3 1 v n xs := by
    intro v n xs h
    refine ⟨h.1, ?_⟩
    rcases h.2 with h0 | ⟨g, cap, cur, h1, h2, h3, h4⟩
    · exact .inl h0
    · exact .inr ⟨g, cap, cur, h1, h2, hk _ _ _ _ h3, h4⟩
  exact ⟨hk _ _ _ _ h.b0, hk _ _ _ _ h.b1, hk _ _ _ _ h.b2, hk _ _ _ _ h.b3, hk _ _ _ _ h.b4, hk _ _ _ _ h.b5, hk _ _ _ _ h.b6, own h.o1, own h.o2, own h.o3, h.a12, h.a13, h.a23, h.hM, Nat.le_trans h.hW hs⟩
theorem DoW.below (h : DoW N M P u v W f l bb bi v1 v2 v3 n1 n2 n3 x1 x2 x3) (hb : Below W.heap.size W W') : DoW N M P u v W' f l bb bi v1 v2 v3 n1 n2 n3 x1 x2 x3 :=
  h.keep hb.size fun k xs t fr hk => (hb.block k (Array.getElem?_eq_some_iff.1 hk).1).trans hk
/-- A store to one of the seven blocks. -/
theorem own_setN {n : Nat} {xs : List Value} {v : Value} (h : W.ownsRow M 3 1 v n xs) {p : Addr} (hp : p.block < M) (x : Value) : (W.setCell p x).ownsRow M 3 1 v n xs := by
  refine h.kept (row := some p.block) ⟨rfl, rfl, rfl, by simp [World.setCell], fun k _ hkP => Below.heap_setCell W p x k (fun e => hkP (by rw [e]))⟩ ?_
  cases hv : v.ownBlock with
  | none => left; rfl
  | some g =>
    right
    intro e
    have := (h.lt g hv).1
    simp only [Option.some.injEq] at e
    omega
theorem DoW.setF (h : DoW N M P u v W f l bb bi v1 v2 v3 n1 n2 n3 x1 x2 x3) (f' : Int) : DoW N M P u v (W.setCell ⟨N + 1 + 1 + 1 + 1, 0, none⟩ (.int .i64 f')) f' l bb bi v1 v2 v3 n1 n2 n3 x1 x2 x3 := by
  have hM := h.hM
  exact ⟨blk_other h.b0 (by omega) _, blk_other h.b1 (by omega) _, blk_other h.b2 (by omega) _, blk_other h.b3 (by omega) _, blk_set h.b4 _, blk_other h.b5 (by omega) _, blk_other h.b6 (by omega) _,
    own_setN h.o1 (by simp only; omega) _, own_setN h.o2 (by simp only; omega) _, own_setN h.o3 (by simp only; omega) _, h.a12, h.a13, h.a23, hM, by simpa [World.setCell] using h.hW⟩
theorem DoW.setL (h : DoW N M P u v W f l bb bi v1 v2 v3 n1 n2 n3 x1 x2 x3) (l' : Int) : DoW N M P u v (W.setCell ⟨N + 1 + 1 + 1 + 1 + 1, 0, none⟩ (.int .i64 l')) f l' bb bi v1 v2 v3 n1 n2 n3 x1 x2 x3 := by
  have hM := h.hM
  exact ⟨blk_other h.b0 (by omega) _, blk_other h.b1 (by omega) _, blk_other h.b2 (by omega) _, blk_other h.b3 (by omega) _, blk_other h.b4 (by omega) _, blk_set h.b5 _, blk_other h.b6 (by omega) _,
    own_setN h.o1 (by simp only; omega) _, own_setN h.o2 (by simp only; omega) _, own_setN h.o3 (by simp only; omega) _, h.a12, h.a13, h.a23, hM, by simpa [World.setCell] using h.hW⟩
theorem DoW.setB (h : DoW N M P u v W f l bb bi v1 v2 v3 n1 n2 n3 x1 x2 x3) (b' i' : Int) : DoW N M P u v ((W.setCell ⟨N + 1 + 1 + 1 + 1 + 1 + 1, 0, none⟩ (.int .i64 b')).setCell ⟨N + 1 + 1 + 1 + 1 + 1 + 1, 1, none⟩ (.int .i64 i')) f l b' i' v1 v2 v3 n1 n2 n3 x1 x2 x3 := by
  have hM := h.hM
  exact ⟨blk_other (blk_other h.b0 (by omega) _) (by omega) _, blk_other (blk_other h.b1 (by omega) _) (by omega) _, blk_other (blk_other h.b2 (by omega) _) (by omega) _, blk_other (blk_other h.b3 (by omega) _) (by omega) _,
    blk_other (blk_other h.b4 (by omega) _) (by omega) _, blk_other (blk_other h.b5 (by omega) _) (by omega) _, blk_set (blk_set h.b6 _) _,
    own_setN (own_setN h.o1 (by simp only; omega) _) (by simp only; omega) _, own_setN (own_setN h.o2 (by simp only; omega) _) (by simp only; omega) _, own_setN (own_setN h.o3 (by simp only; omega) _) (by simp only; omega) _, h.a12, h.a13, h.a23, hM, by simpa [World.setCell] using h.hW⟩
/-- What an append of one row leaves: the blocks below M. -/
theorem grow_low {o : Obj} {w2 : World} {vi : Value} {ni : Nat} {xi : List Value} (ho : W.ownsRow M 3 1 vi ni xi) (hW : M ≤ W.heap.size) (hg : (W.alloc o).grownBy w2 vi.ownBlock) : ∀ k, k < M → w2.heap[k]? = W.heap[k]? := fun k hk => by
  refine (hg.block k (by simp; omega) (fun e => ?_)).trans (Below.heap_alloc _ _ _ (by omega))
  have := (ho.lt k e.symm).1
  omega
theorem apart_new {o : Obj} {vi vi' vj : Value} {nj : Nat} {xj : List Value} (ha : Apart vi vj) (hj : W.ownsRow M 3 1 vj nj xj) (hat : vi'.ownBlock = vi.ownBlock ∨ vi'.ownBlock = some (W.alloc o).heap.size) : Apart vi' vj := fun g h1 h2 => by
  rcases hat with e | e
  · exact ha g (e ▸ h1) h2
  · rw [e] at h1
    have := (hj.lt g h2).2
    simp at h1
    omega
theorem DoW.app1 (h : DoW N M P u v W f l bb bi v1 v2 v3 n1 n2 n3 x1 x2 x3) {o : Obj} {w2 : World} {v1' : Value} {n1' : Nat} {x1' : List Value} (hg : (W.alloc o).grownBy w2 v1.ownBlock) (hown : w2.ownsRow M 3 1 v1' n1' x1')
    (hat : v1'.ownBlock = v1.ownBlock ∨ v1'.ownBlock = some (W.alloc o).heap.size) : DoW N M P u v (w2.setCell ⟨N + 1 + 1 + 1, 0, none⟩ v1') f l bb bi v1' v2 v3 n1' n2 n3 x1' x2 x3 := by
  have hM := h.hM
  have hlow := grow_low h.o1 h.hW hg
  exact ⟨blk_other ((hlow _ (by omega)).trans h.b0) (by omega) _, blk_other ((hlow _ (by omega)).trans h.b1) (by omega) _, blk_other ((hlow _ (by omega)).trans h.b2) (by omega) _, blk_set ((hlow _ (by omega)).trans h.b3) _, blk_other ((hlow _ (by omega)).trans h.b4) (by omega) _,
    blk_other ((hlow _ (by omega)).trans h.b5) (by omega) _, blk_other ((hlow _ (by omega)).trans h.b6) (by omega) _, own_setN hown (by simp only; omega) _, own_setN (Apart.keep (h.o2.alloc o) h.a12 hg) (by simp only; omega) _,
    own_setN (Apart.keep (h.o3.alloc o) h.a13 hg) (by simp only; omega) _, apart_new h.a12 h.o2 hat, apart_new h.a13 h.o3 hat, h.a23, hM, by have h1 := hg.size; have h2 := h.hW; simp at h1; simp [World.setCell]; omega⟩
theorem DoW.app2 (h : DoW N M P u v W f l bb bi v1 v2 v3 n1 n2 n3 x1 x2 x3) {o : Obj} {w2 : World} {v2' : Value} {n2' : Nat} {x2' : List Value} (hg : (W.alloc o).grownBy w2 v2.ownBlock) (hown : w2.ownsRow M 3 1 v2' n2' x2')
    (hat : v2'.ownBlock = v2.ownBlock ∨ v2'.ownBlock = some (W.alloc o).heap.size) : DoW N M P u v (w2.setCell ⟨N + 1 + 1 + 1, 1, none⟩ v2') f l bb bi v1 v2' v3 n1 n2' n3 x1 x2' x3 := by
  have hM := h.hM
  have hlow := grow_low h.o2 h.hW hg
  exact ⟨blk_other ((hlow _ (by omega)).trans h.b0) (by omega) _, blk_other ((hlow _ (by omega)).trans h.b1) (by omega) _, blk_other ((hlow _ (by omega)).trans h.b2) (by omega) _, blk_set ((hlow _ (by omega)).trans h.b3) _, blk_other ((hlow _ (by omega)).trans h.b4) (by omega) _,
    blk_other ((hlow _ (by omega)).trans h.b5) (by omega) _, blk_other ((hlow _ (by omega)).trans h.b6) (by omega) _, own_setN (Apart.keep (h.o1.alloc o) h.a12.symm hg) (by simp only; omega) _, own_setN hown (by simp only; omega) _,
    own_setN (Apart.keep (h.o3.alloc o) h.a23 hg) (by simp only; omega) _, (apart_new h.a12.symm h.o1 hat).symm, h.a13, apart_new h.a23 h.o3 hat, hM, by have h1 := hg.size; have h2 := h.hW; simp at h1; simp [World.setCell]; omega⟩
theorem DoW.app3 (h : DoW N M P u v W f l bb bi v1 v2 v3 n1 n2 n3 x1 x2 x3) {o : Obj} {w2 : World} {v3' : Value} {n3' : Nat} {x3' : List Value} (hg : (W.alloc o).grownBy w2 v3.ownBlock) (hown : w2.ownsRow M 3 1 v3' n3' x3')
    (hat : v3'.ownBlock = v3.ownBlock ∨ v3'.ownBlock = some (W.alloc o).heap.size) : DoW N M P u v (w2.setCell ⟨N + 1 + 1 + 1, 2, none⟩ v3') f l bb bi v1 v2 v3' n1 n2 n3' x1 x2 x3' := by
  have hM := h.hM
  have hlow := grow_low h.o3 h.hW hg
  exact ⟨blk_other ((hlow _ (by omega)).trans h.b0) (by omega) _, blk_other ((hlow _ (by omega)).trans h.b1) (by omega) _, blk_other ((hlow _ (by omega)).trans h.b2) (by omega) _, blk_set ((hlow _ (by omega)).trans h.b3) _, blk_other ((hlow _ (by omega)).trans h.b4) (by omega) _,
    blk_other ((hlow _ (by omega)).trans h.b5) (by omega) _, blk_other ((hlow _ (by omega)).trans h.b6) (by omega) _, own_setN (Apart.keep (h.o1.alloc o) h.a13.symm hg) (by simp only; omega) _, own_setN (Apart.keep (h.o2.alloc o) h.a23.symm hg) (by simp only; omega) _,
    own_setN hown (by simp only; omega) _, h.a12, (apart_new h.a13.symm h.o1 hat).symm, (apart_new h.a23.symm h.o2 hat).symm, hM, by have h1 := hg.size; have h2 := h.hW; simp at h1; simp [World.setCell]; omega⟩
theorem chg_app {R : Nat → Prop} {o : Obj} {w2 : World} {vi : Value} {ni : Nat} {xi : List Value} (ho : W.ownsRow M 3 1 vi ni xi) (hg : (W.alloc o).grownBy w2 vi.ownBlock) (hR : ∀ k, M ≤ k → R k) : Chg R W w2 :=
  (Chg.of_below ((Below.refl _ _).alloc (Nat.le_refl _) o)).trans (Chg.grown (ho.alloc o) hg hR)
end
/-- What do has reckoned so far. -/
def headT (tb : Nat → Nat → Int) (ps : List Pc) : Int := match ps.head? with
  | some p => tb p.b p.fr
  | none => 0
def lastT (te : Nat → Nat → Int) (ps : List Pc) : Int := match ps.getLast? with
  | some p => te p.b p.to
  | none => 0
def lastB (ps : List Pc) : Nat × Nat := match ps.getLast? with
  | some p => (p.b, p.to)
  | none => (0, 0)
def valsI (l : List Int) : List Value := l.map (.int .i64)
structure DoSt (d : DDay) (tb te : Nat → Nat → Int) (N M P : Nat) (u v : Value) (ps : List Pc) (W : World) : Prop where
  st : ∃ v1 v2 v3, DoW N M P u v W (headT tb ps) (lastT te ps) ((lastB ps).1 : Int) ((lastB ps).2 : Int) v1 v2 v3 ps.length (ps.length - 1) (ps.length - 1) (valsI (ps.map (durP tb te))) (valsI (breaksP tb te ps)) (valsI (restsP d tb te ps))
theorem breaksP_snoc (tb te : Nat → Nat → Int) (p q : Pc) : ∀ ps : List Pc, breaksP tb te ((ps ++ [p]) ++ [q]) = breaksP tb te (ps ++ [p]) ++ [tb q.b q.fr - te p.b p.to]
  | [] => rfl
  | [x] => rfl
  | x :: y :: t => by
    have := breaksP_snoc tb te p q (y :: t)
    simp only [List.cons_append, breaksP] at this ⊢
    rw [this]
theorem restsP_snoc (d : DDay) (tb te : Nat → Nat → Int) (p q : Pc) : ∀ ps : List Pc, restsP d tb te ((ps ++ [p]) ++ [q]) = restsP d tb te (ps ++ [p]) ++ [tb q.b q.fr - te p.b p.to - gapP d p q]
  | [] => rfl
  | [x] => rfl
  | x :: y :: t => by
    have := restsP_snoc d tb te p q (y :: t)
    simp only [List.cons_append, restsP] at this ⊢
    rw [this]
end Go.Proofs.Ytllobkhdeahgpaa
namespace Go.Proofs.Ytllobkhdeahgpaa
open Go Go.Proofs Go.RowKit Go.Shelf

attribute [local go_sem] Oper.semAt_some

theorem DoSt.own {d : DDay} {tb te : Nat → Nat → Int} {N M P : Nat} {u v : Value} {α : Type} {B : Nat} (f : List α → List Pc) : OwnFrom B (fun (pre : List α) W => DoSt d tb te N M P u v (f pre) W) := fun s W W' row h hg hr => by
  obtain ⟨v1, v2, v3, h⟩ := h.st
  refine ⟨v1, v2, v3, h.keep hg.size fun k xs t fr hk => (hg.block k (Array.getElem?_eq_some_iff.1 hk).1 (fun e => ?_)).trans hk⟩
  obtain ⟨_, o, ho, hc⟩ := hr k e.symm
  rw [hk] at ho
  cases ho
  cases hc
theorem DoSt.below {d : DDay} {tb te : Nat → Nat → Int} {N M P : Nat} {u v : Value} {ps : List Pc} {W W' : World} (h : DoSt d tb te N M P u v ps W) (hb : Below W.heap.size W W') : DoSt d tb te N M P u v ps W' := by
  obtain ⟨v1, v2, v3, h⟩ := h.st
  exact ⟨v1, v2, v3, h.below hb⟩
theorem DoSt.size {d : DDay} {tb te : Nat → Nat → Int} {N M P : Nat} {u v : Value} {ps : List Pc} {W : World} (h : DoSt d tb te N M P u v ps W) : M ≤ W.heap.size := by
  obtain ⟨v1, v2, v3, h⟩ := h.st
  exact h.hW
/-- The memory of do behind a round, but for last and before. -/
structure DoFin (d : DDay) (tb te : Nat → Nat → Int) (N M P : Nat) (u v : Value) (qs : List Pc) (p : Pc) (Bx : Nat) (W W5 : World) : Prop where
  st : ∃ v1 v2 v3, DoW N M P u v W5 (headT tb (qs ++ [p])) (lastT te qs) ((lastB qs).1 : Int) ((lastB qs).2 : Int) v1 v2 v3 (qs.length + 1) qs.length qs.length (valsI ((qs ++ [p]).map (durP tb te))) (valsI (breaksP tb te (qs ++ [p]))) (valsI (restsP d tb te (qs ++ [p])))
  y : W5.heap[Bx]? = some (.cells #[.int .i64 (p.b : Int), .int .i64 (p.fr : Int), .int .i64 (p.b : Int), .int .i64 (p.to : Int), .int .i64 (p.first : Int)] 126 (0, 0))
  chg : Chg (DoR N M) W W5
theorem Chg.grown_row {A B : World} {base : Nat} {e : TypeId} {size n : Nat} {v : Value} {xs : List Value} (hown : A.ownsRow base e size v n xs) (hg : A.grownBy B v.ownBlock) : Chg (fun k => v.ownBlock = some k) A B := by
  refine ⟨hg.os, hg.tape, hg.output, hg.size, fun k hk hr => hg.block k hk (fun e => hr e.symm), fun k o hk ho => ?_⟩
  refine (hg.block k (Array.getElem?_eq_some_iff.1 hk).1 (fun e => ?_)).trans hk
  rcases hown.2 with ⟨rfl, _⟩ | ⟨g, cap, cur, rfl, _, hgc, _⟩
  · simp [Value.ownBlock] at e
  · simp only [Value.ownBlock, Option.some.injEq] at e
    subst e
    rw [hgc] at hk
    cases hk
    simp [Obj.isCells] at ho
theorem World.heap_alloc_at (w : World) (o : Obj) (k : Nat) : (w.alloc o).heap[k]? = if k = w.heap.size then some o else w.heap[k]? := by
  by_cases h : k = w.heap.size
  · subst h
    rw [if_pos rfl]
    exact World.alloc_heap_new w o
  · rw [if_neg h]
    rcases Nat.lt_or_ge k w.heap.size with h1 | h1
    · exact Below.heap_alloc w o k h1
    · rw [Array.getElem?_eq_none h1, Array.getElem?_eq_none (by simp; omega)]
theorem ups_map {n : Nat} {α : Type} (ps : List α) (h : n = ps.length) (f : { j : Nat // j < n } → α) (hf : ∀ x : { j : Nat // j < n }, ps[x.1]? = some (f x)) : ∀ k, k ≤ n → (ups n k).map f = ps.take k
  | 0, _ => by simp [ups]
  | k + 1, hk => by
    rw [ups_succ (by omega), List.map_append, ups_map ps h f hf k (by omega)]
    have := hf ⟨k, by omega⟩
    rw [List.take_add_one, this]
    rfl
theorem chg_box {N M o k : Nat} (W : World) (hk : N + 1 + 1 + 1 ≤ k ∧ k < N + 7) (u : Value) : Chg (DoR N M) W (W.setCell ⟨k, o, none⟩ u) := Chg.set W (p := ⟨k, o, none⟩) (.inl hk) u
theorem wpIn_name {F : Fence} {n : Nat} {P : Program} {c : Code} {Q : Exit → Act → World → Prop} {a : Act} {w : World} (G : World → Prop) (h : G w) (hk : ∀ W, G W → c.wpIn F n P Q a W) : c.wpIn F n P Q a w := hk w h
theorem walk_cells {w : World} {A : Option Addr} {n c : Nat} {d : DDay} (h : RowsAt w (.slice A n c) d.walk) (hd : DayOk d) {a1 a2 : Nat} (h1 : a1 < d.walk.length) (h2 : a2 < d.walk.length) :
    ∃ B o B' o' c', A = some ⟨B, o, none⟩ ∧ w.cell? ⟨B, o + a1, none⟩ = some (.slice (some ⟨B', o', none⟩) d.walk.length c') ∧ w.cell? ⟨B', o' + a2, none⟩ = some (.int .i64 (walkAt d.walk a1 a2)) ∧ B < w.heap.size ∧ B' < w.heap.size := by
  obtain ⟨B, o, l, u, rfl, hl, c0, hr, hB⟩ := h.at_ h1
  have hrow := hd.row a1 l hl
  obtain ⟨A2, c2, rfl, _, _⟩ := hr.form
  obtain ⟨B', o', y, rfl, hy, d0, hB'⟩ := hr.at_ (k := a2) (by rw [hrow.1]; exact h2)
  refine ⟨B, o, B', o', c2, rfl, by rw [c0, hrow.1], ?_, hB, hB'⟩
  rw [d0]
  unfold walkAt
  rw [Int.toNat_natCast, Int.toNat_natCast, hl, Option.getD_some, hy]
  rfl
theorem place_nat {d : DDay} (hd : DayOk d) {b i : Nat} (h : InDay d b i) : ∃ a : Nat, (relAt d.blocks b i).place = (a : Int) ∧ a < d.walk.length := by
  have := (rel_at hd h.1 h.2).place
  exact ⟨(relAt d.blocks b i).place.toNat, by omega, by omega⟩
theorem then_name {K : Act → World → Prop} {Q : Exit → Act → World → Prop} {a : Act} {w : World} (G : World → Prop) (h : G w) (hk : ∀ W, G W → Exit.then K Q .normal a W) : Exit.then K Q .normal a w := hk w h
def GivesWork (d : DDay) (tb te : Nat → Nat → Int) (ps : List Pc) (w : World) (e : Ending) (w' : World) : Prop := ∃ (A1 A2 A3 : Option Addr) (c1 c2 c3 : Nat),
  e = .returned (.agg #[.slice A1 ps.length c1, .slice A2 (ps.length - 1) c2, .slice A3 (ps.length - 1) c3, .int .i64 (spreadP d tb te ps)]) ∧ NumsAt .i64 w' (.slice A1 ps.length c1) (ps.map (durP tb te)) ∧ NumsAt .i64 w' (.slice A2 (ps.length - 1) c2) (breaksP tb te ps) ∧
  NumsAt .i64 w' (.slice A3 (ps.length - 1) c3) (restsP d tb te ps) ∧ Below w.heap.size w w'
/-- The breaks lie in new memory. -/
def GivesWorkO (d : DDay) (tb te : Nat → Nat → Int) (ps : List Pc) (w : World) (e : Ending) (w' : World) : Prop := ∃ (A1 A2 A3 : Option Addr) (c1 c2 c3 : Nat),
  e = .returned (.agg #[.slice A1 ps.length c1, .slice A2 (ps.length - 1) c2, .slice A3 (ps.length - 1) c3, .int .i64 (spreadP d tb te ps)]) ∧ NumsAt .i64 w' (.slice A1 ps.length c1) (ps.map (durP tb te)) ∧ NumsAt .i64 w' (.slice A2 (ps.length - 1) c2) (breaksP tb te ps) ∧
  NumsAt .i64 w' (.slice A3 (ps.length - 1) c3) (restsP d tb te ps) ∧ w'.ownsRow w.heap.size 3 1 (.slice A2 (ps.length - 1) c2) (ps.length - 1) ((breaksP tb te ps).map (.int .i64)) ∧ Below w.heap.size w w'
set_option maxRecDepth 100000 in
set_option maxHeartbeats 6400000 in
theorem do_own (P x : Nat) (d : DDay) (tb te : Nat → Nat → Int) (fu fv : Fn) (au av cu cv : Array Value) (w : World) (hd : DayOk d) (hp : PlanAt w P d) (hx : x < 2 ^ segN d.blocks) (h0 : x ≠ 0)
    (hu : Tells w d (.func fu au cu) tb) (hv : Tells w d (.func fv av cv) te) (hbd : ∀ b i, InDay d b i → (0 ≤ tb b i ∧ tb b i ≤ 3000) ∧ (0 ≤ te b i ∧ te b i ≤ 3000)) :
    Calls Try.prog 51 #[.pointer (some ⟨P, 0, none⟩), .int .u16 (x : Int), .agg #[.func fu au cu, .func fv av cv]] w (GivesWorkO d tb te (piecesL d (bitsL (segN d.blocks) x)) w) := by
  obtain ⟨i0, hi0, hz0, hz1, hz2⟩ := info_parts infoI
  have hPl := hp.lt
  have Hp := Lib.hid hp
  have Hd := Lib.hid hd
  have Hu := Lib.hid hu
  have Hv := Lib.hid hv
  have Hbd := Lib.hid hbd
  have Hx := Lib.hid hx
  clear hp hd hu hv hbd hx
  refine (callsIn_wide (n := 3)).1 ?_
  refine callsIn_of_wp_marks Try.func51 rfl trivial ?_
  simp only [Try.ntmps51, List.size_toArray, List.length_cons, List.length_nil, Nat.reduceAdd, Nat.reduceSub, Array.replicate_succ, Array.replicate_zero, List.push_toArray, List.append_toArray, List.nil_append, List.cons_append]
  gi_wp2_with fail
  have hb0 : Below w.heap.size w (((((((w.alloc (.cells #[.pointer (some ⟨P, 0, none⟩)] 76)).alloc (.cells #[.func fu au cu, .func fv av cv] 109)).alloc (.cells #[.slice none 0 0, .slice none 0 0, .slice none 0 0, .int .i64 0] 106)).alloc
      (.cells #[.slice none 0 0, .slice none 0 0, .slice none 0 0, .int .i64 0] 106)).alloc (.cells #[.int .i64 0] 3)).alloc (.cells #[.int .i64 0] 3)).alloc (.cells #[.int .i64 0, .int .i64 0] 103)) :=
    (((((((Below.refl _ _).alloc (Nat.le_refl _) _).alloc (by simp) _).alloc (by simp; omega) _).alloc (by simp; omega) _).alloc (by simp; omega) _).alloc (by simp; omega) _).alloc (by simp; omega) _
  refine ⟨trivial, ?_⟩
  refine (callsIn_wide.2 (pieces_any P x d _ Hd.out (Hp.out.below hb0) Hx.out h0)).mono ?_
  rintro e W1 ⟨sv, rfl, ⟨B, g, c, rfl, s0, hcap, hcells, hgl, hB7, hg7⟩, hb1⟩
  have hw1 : Below w.heap.size w W1 := hb0.trans (hb1.mono hb0.size)
  have hs1 := hb1.size
  simp only [World.size_alloc] at hs1 hB7 hg7
  have hst : DoSt d tb te w.heap.size W1.heap.size P (.func fu au cu) (.func fv av cv) [] W1 := by
    refine ⟨.slice none 0 0, .slice none 0 0, .slice none 0 0, ?_⟩
    have hk : ∀ k, k < w.heap.size + 7 → W1.heap[k]? = _ := fun k hk => hb1.block k (by simp; omega)
    refine ⟨?_, ?_, ?_, ?_, ?_, ?_, ?_, World.ownsRow_nil _ _ _ _, World.ownsRow_nil _ _ _ _, World.ownsRow_nil _ _ _ _, fun g h => (by cases h), fun g h => (by cases h), fun g h => (by cases h), by omega, Nat.le_refl _⟩
    all_goals (rw [hk _ (by omega)])
    all_goals (simp only [World.heap_alloc_at, World.size_alloc]; repeat (first | rw [if_neg (by omega)] | rw [if_pos (by omega)]))
    all_goals rfl
  gi_wp2_with fail
  have hps : ∀ p ∈ piecesL d (bitsL (segN d.blocks) x), InDay d p.b p.fr ∧ InDay d p.b p.to := fun p hp => by
    obtain ⟨k1, k2, k3, k4⟩ := (raw_ok (bl := d.blocks) _ (bitsL_asc (segN d.blocks) x) (fun n hn => (mem_bitsL.1 hn).1)).ok p ((srtP_perm _ _).mem_iff.1 hp)
    exact ⟨⟨k1, by omega⟩, k1, k3⟩
  have hlen : (piecesL d (bitsL (segN d.blocks) x)).length ≤ 10 := by
    have h1 := rawP_le (segs d.blocks) (bitsL (segN d.blocks) x)
    have h2 := bitsL_len (segN d.blocks) x
    have h3 := Hd.out.segs
    have h4 : (piecesL d (bitsL (segN d.blocks) x)).length = _ := (srtP_perm d.blocks (rawP (segs d.blocks) (bitsL (segN d.blocks) x))).length_eq
    omega
  have hne : piecesL d (bitsL (segN d.blocks) x) ≠ [] := fun e => by
    have hb : bitsL (segN d.blocks) x ≠ [] := fun e => by
      have := mask_bitsL Hx.out
      rw [e] at this
      exact h0 this.symm
    have h1 := (raw_ok (bl := d.blocks) _ (bitsL_asc (segN d.blocks) x) (fun n hn => (mem_bitsL.1 hn).1)).nonempty hb
    have h4 : (piecesL d (bitsL (segN d.blocks) x)).length = _ := (srtP_perm d.blocks (rawP (segs d.blocks) (bitsL (segN d.blocks) x))).length_eq
    rw [e] at h4
    exact h1 (List.eq_nil_of_length_eq_zero (by simpa using h4.symm))
  generalize piecesL d (bitsL (segN d.blocks) x) = ps at *
  refine wpIn_rangeFunc_ownH rfl (by omega) (gf := 96) (lb := #[.pointer (some ⟨B, 0, none⟩)]) rfl trivial (enters_of Try.func96 (by kernel_rfl) rfl)
    (values_stops 2 (by omega) B g (fun k => k = B ∨ k = g) ps c (by omega) hcap W1 (fun k hk => by rcases hk with rfl | rfl; exact World.block_lt_of_cell? _ _ s0; exact hgl) ⟨.inl rfl, .inr rfl, s0, hcells⟩) Keep.trans
    (fun W l o1 o2 hl ho _ _ j hj => World.putObj_heap_other (by have hB := World.block_lt_of_cell? _ _ s0; rcases hj with rfl | rfl <;> (simp only at hB; omega))) (Below.refl _ _) (fun _ => rfl)
    (fun pre W => DoSt d tb te w.heap.size W1.heap.size P (.func fu au cu) (.func fv av cv) (pre.map fun x => ps[x.1]) W ∧ Below w.heap.size w W)
    (fun _ _ _ => False) ?hI (fun _ _ _ _ _ hs _ _ => hs) ?h0
    (fun y a' W => ∃ Bx, W1.heap.size ≤ Bx ∧ W.heap[Bx]? = some (.cells #[.int .i64 ((ps[y.1]).b : Int), .int .i64 ((ps[y.1]).fr : Int), .int .i64 ((ps[y.1]).b : Int), .int .i64 ((ps[y.1]).to : Int), .int .i64 ((ps[y.1]).first : Int)] 126 (0, 0)) ∧ a' = { tmps := List.toArray ((.pointer (some ⟨P, 0, none⟩)) :: (.int .u16 (x : Int)) :: (.agg #[.func fu au cu, .func fv av cv]) :: (.pointer (some ⟨w.heap.size, 0, none⟩)) :: undef :: (.pointer (some ⟨w.heap.size + 1, 0, none⟩)) :: (.pointer (some ⟨w.heap.size + 1 + 1, 0, none⟩)) :: (.pointer (some ⟨w.heap.size + 1 + 1 + 1, 0, none⟩)) :: (.pointer (some ⟨w.heap.size + 1 + 1 + 1 + 1, 0, none⟩)) :: (.pointer (some ⟨w.heap.size + 1 + 1 + 1 + 1 + 1, 0, none⟩)) :: (.pointer (some ⟨w.heap.size + 1 + 1 + 1 + 1 + 1 + 1, 0, none⟩)) :: (.pointer (some ⟨Bx, 0, none⟩)) :: undef :: undef :: (.agg #[.int .i64 0, .int .i64 0]) :: (.pointer (some ⟨P, 0, none⟩)) :: (.int .u16 (x : Int)) :: (.func (.func 96) #[] #[.pointer (some ⟨B, 0, none⟩)]) :: (.agg #[.int .i64 ((ps[y.1]).b : Int), .int .i64 ((ps[y.1]).fr : Int), .int .i64 ((ps[y.1]).b : Int), .int .i64 ((ps[y.1]).to : Int), .int .i64 ((ps[y.1]).first : Int)]) :: undef :: undef :: undef :: undef :: undef :: undef :: undef :: undef :: undef :: undef :: undef :: undef :: undef :: undef :: undef :: undef :: undef :: undef :: undef :: undef :: undef :: undef :: undef :: undef :: undef :: undef :: undef :: undef :: undef :: undef :: undef :: undef :: undef :: undef :: undef :: undef :: undef :: undef :: undef :: undef :: undef :: undef :: undef :: undef :: undef :: undef :: undef :: undef :: undef :: undef :: undef :: undef :: undef :: undef :: undef :: undef :: undef :: undef :: undef :: undef :: undef :: undef :: undef :: undef :: undef :: undef :: undef :: undef :: undef :: undef :: undef :: undef :: undef :: undef :: undef :: undef :: undef :: undef :: undef :: undef :: undef :: undef :: []), defers := [] })
    ?hAx ?assign ?body ?done ?stop
  case hI => exact OwnFrom.and (DoSt.own _) (ownFrom_below (Nat.le_refl _) (by omega))
  case h0 => exact ⟨hst, hw1⟩
  case hAx =>
    rintro y a' _ X Y row ⟨Bx, h1, h2, h3⟩ hg hr
    refine ⟨Bx, h1, (hg.block Bx (Array.getElem?_eq_some_iff.1 h2).1 (fun e => ?_)).trans h2, h3⟩
    obtain ⟨_, o, ho, hc⟩ := hr Bx e.symm
    rw [h2] at ho
    cases ho
    cases hc
  case assign =>
    rintro id pre y W K hI hK
    simp only [pcE]
    have e5 : pcV ps[y.1] = .agg #[.int .i64 ((ps[y.1]).b : Int), .int .i64 ((ps[y.1]).fr : Int), .int .i64 ((ps[y.1]).b : Int), .int .i64 ((ps[y.1]).to : Int), .int .i64 ((ps[y.1]).first : Int)] := rfl
    rw [e5]
    gi_wp2
    have hM := hI.1.size
    refine hK _ _ ((KeepsOthers.alloc _ _).from _) ?_ ?_ ⟨W.heap.size, hM, World.alloc_heap_new _ _, rfl⟩
    · exact fun j hj => Below.heap_alloc _ _ _ (by have hB := World.block_lt_of_cell? _ _ s0; rcases hj with rfl | rfl <;> (simp only at hB; omega))
    · exact ⟨hI.1.below ((Below.refl _ _).alloc (Nat.le_refl _) _), hI.2.alloc hI.2.size _⟩
  case body =>
    rintro id pre ⟨jx, hjx⟩ a' W hlW ⟨r, hrec⟩ ⟨hdo, hbw⟩ ⟨Bx, hBx, hbX, rfl⟩ hpre
    dsimp only
    have hqs : ∀ r ∈ pre.map (fun x => ps[x.1]), r ∈ ps := fun r hr => by
      obtain ⟨x, _, rfl⟩ := List.mem_map.1 hr
      exact List.getElem_mem _
    have hql : (pre.map (fun x => ps[x.1])).length ≤ 10 := by simp; omega
    have hqe : (pre ++ [(⟨jx, hjx⟩ : { j : Nat // j < ps.length })]).map (fun x => ps[x.1]) = pre.map (fun x => ps[x.1]) ++ [ps[jx]] := by simp
    obtain ⟨qs, hqs0⟩ : ∃ qs, pre.map (fun x => ps[x.1]) = qs := ⟨_, rfl⟩
    obtain ⟨hi1, hi2⟩ := hps ps[jx] (List.getElem_mem hjx)
    obtain ⟨p, hp0⟩ : ∃ p, ps[jx] = p := ⟨_, rfl⟩
    rw [hqs0] at hqs hql hdo hqe
    rw [hp0] at hi1 hi2 hbX hqe ⊢
    have Hqe := Lib.hid hqe
    clear hqs0 hp0 hqe
    obtain ⟨v1, v2, v3, hW⟩ := hdo.st
    have hM := hW.hM
    have hMW := hW.hW
    have hBl : B < W1.heap.size := World.block_lt_of_cell? _ _ s0
    have x0 : W.cell? ⟨Bx, 0, none⟩ = some (.int .i64 (p.b : Int)) := by rw [box_cells hbX]; rfl
    have x1 : W.cell? ⟨Bx, 1, none⟩ = some (.int .i64 (p.fr : Int)) := by rw [box_cells hbX]; rfl
    have x2 : W.cell? ⟨Bx, 2, none⟩ = some (.int .i64 (p.b : Int)) := by rw [box_cells hbX]; rfl
    have x3 : W.cell? ⟨Bx, 3, none⟩ = some (.int .i64 (p.to : Int)) := by rw [box_cells hbX]; rfl
    have y0 : W.cell? ⟨w.heap.size + 1, 0, none⟩ = some (.func fu au cu) := by rw [box_cells hW.b1]; rfl
    have y1 : W.cell? ⟨w.heap.size + 1, 1, none⟩ = some (.func fv av cv) := by rw [box_cells hW.b1]; rfl
    have X0 := Lib.hid x0
    have X1 := Lib.hid x1
    have X2 := Lib.hid x2
    have X3 := Lib.hid x3
    replace x0 := Later.cell x0
    replace x1 := Later.cell x1
    replace x2 := Later.cell x2
    replace x3 := Later.cell x3
    replace y0 := Later.cell y0
    replace y1 := Later.cell y1
    gi_wp2_with fail
    refine wpIn_region_later (by kernel_rfl) (by kernel_rfl) (fun ⟨_, _, h⟩ => h) ?_
    repeat (go_big_quiet_step (fail))
    refine wpQuiet_callv (.tmp 20) [.tmp 23] #[103] rfl rfl (.func fu au cu) rfl [.agg #[.int .i64 (p.b : Int), .int .i64 (p.fr : Int)]] rfl (.int .i64 (tb p.b p.fr)) (fun X => Hu.out X.val p.b p.fr (hbw.trans (X.property.mono hbw.size)) hi1) ?_
    simp only [Act.put, List.setIfInBounds_toArray, List.set_cons_succ, List.set_cons_zero]
    repeat (go_big_quiet_step (fail))
    refine wpQuiet_callv (.tmp 26) [.tmp 29] #[103] rfl rfl (.func fv av cv) rfl [.agg #[.int .i64 (p.b : Int), .int .i64 (p.to : Int)]] rfl (.int .i64 (te p.b p.to)) (fun X => Hv.out X.val p.b p.to (hbw.trans (X.property.mono hbw.size)) hi2) ?_
    simp only [Act.put, List.setIfInBounds_toArray, List.set_cons_succ, List.set_cons_zero]
    repeat (go_big_quiet_step (fail))
    refine wpQuiet_nil ?_
    rintro Wa hLa
    have hba := Later.out hLa
    clear hLa
    clear x0 x1 x2 x3 y0 y1
    have hWa0 := hW.below hba
    have hXa : Wa.heap[Bx]? = some (.cells #[.int .i64 (p.b : Int), .int .i64 (p.fr : Int), .int .i64 (p.b : Int), .int .i64 (p.to : Int), .int .i64 (p.first : Int)] 126 (0, 0)) := (hba.block Bx (Array.getElem?_eq_some_iff.1 hbX).1).trans hbX
    have hca : Chg (DoR w.heap.size W1.heap.size) W Wa := Chg.of_below hba
    have hRM : ∀ k, W1.heap.size ≤ k → DoR w.heap.size W1.heap.size k := fun k hk => .inr hk
    have hMa := hWa0.hW
    obtain ⟨⟨tl, th⟩, _⟩ := Hbd.out p.b p.fr hi1
    obtain ⟨_, ⟨el, eh⟩⟩ := Hbd.out p.b p.to hi2
    have hfin : ∀ W5, DoFin d tb te w.heap.size W1.heap.size P (.func fu au cu) (.func fv av cv) qs p Bx W W5 → DoFin d tb te w.heap.size W1.heap.size P (.func fu au cu) (.func fv av cv) qs p Bx W W5 := fun _ h => h
    obtain ⟨T1, hT1⟩ : ∃ z, tb p.b p.fr = z := ⟨_, rfl⟩
    obtain ⟨T2, hT2⟩ : ∃ z, te p.b p.to = z := ⟨_, rfl⟩
    rw [hT1] at tl th ⊢
    rw [hT2] at el eh ⊢
    have HT1 := Lib.hid hT1
    have HT2 := Lib.hid hT2
    have HXa := Lib.hid hXa
    clear hT1 hT2 hXa hbX
    have qd : IntKind.i64.wrap (T2 - T1) = T2 - T1 := IntWalk.i64_in _ (by omega)
    rcases List.eq_nil_or_concat qs with rfl | ⟨qs', q, rfl⟩
    · have hWa : DoW w.heap.size W1.heap.size P (.func fu au cu) (.func fv av cv) Wa 0 0 0 0 v1 v2 v3 0 0 0 [] [] [] := hWa0
      obtain ⟨A1, c1, rfl⟩ := own_form hWa.o1
      have g30 := box_cells hWa.b3 0
      have f30 := box_frozen hWa.b3 0
      have g40 := box_cells hWa.b4 0
      have f40 := box_frozen hWa.b4 0
      simp only [List.getElem?_toArray, List.getElem?_cons_zero] at g30 g40
      have hWb := hWa.setF T1
      have HWb := Lib.hid hWb
      clear hWa0 hWb
      gi_wp2_with (refine wpListIn_append_src _ rfl (.tmp 71) (.tmp 75) 28 rfl W1.heap.size 3 i0 _ 1 8 Try.underlying28 hi0 hz0 hz1 hz2 rfl (by omega) _ 0 _ rfl (HWb.out.o1.alloc _) (some ⟨Wa.heap.size, 0, none⟩) 1 1 [.int .i64 (T2 - T1)] rfl (src_newN (xs := [.int .i64 (T2 - T1)]) rfl (by simp)) (by simp [Value.oneCell']) (by unfold maxLen; omega) (by omega) (by simp; omega) ?_; intro A1' c1' w2 hown2 hg2 hat2; have hlow := (grow_low HWb.out.o1 HWb.out.hW hg2 _ (by have := HWb.out.hM; omega)).trans HWb.out.b3; have g31 := box_cells hlow 0; have f31 := box_frozen hlow 0; simp only [List.getElem?_toArray, List.getElem?_cons_zero] at g31; have Hown2 := Lib.hid hown2; have Hg2 := Lib.hid hg2; have Hat2 := Lib.hid hat2; clear hown2 hg2 hat2 hlow)
      refine wpIn_name (DoFin d tb te w.heap.size W1.heap.size P (.func fu au cu) (.func fv av cv) [] p Bx W) ?_ (fun W5 hF => ?_)
      · have hx1 := blk_other (Q := w.heap.size + 1 + 1 + 1 + 1) (o := 0) HXa.out (by omega) (.int .i64 T1)
        refine ⟨⟨.slice A1' 1 c1', v2, v3, ?_⟩, blk_other (own_grow HWb.out.o1 hx1 (by decide) Hg2.out) (by omega) _, ?_⟩
        · have h5 := HWb.out.app1 Hg2.out Hown2.out Hat2.out
          simp only [List.nil_append, headT, List.head?_cons, lastT, lastB, List.getLast?_nil, List.length_nil, Nat.zero_add, List.map_cons, List.map_nil, valsI, durP, breaksP, restsP, HT1.out, HT2.out]
          exact h5
        · exact ((hca.trans (chg_box _ (by omega) _)).trans (chg_app HWb.out.o1 Hg2.out hRM)).trans (chg_box _ (by omega) _)
      clear HWb g30 f30 g40 f40 HXa hba
      obtain ⟨⟨u1, u2, u3, h5⟩, y5, ch5⟩ := hF
      have hM5 := h5.hW
      have x2 : W5.cell? ⟨Bx, 2, none⟩ = some (.int .i64 (p.b : Int)) := by rw [box_cells y5]; rfl
      have x3 : W5.cell? ⟨Bx, 3, none⟩ = some (.int .i64 (p.to : Int)) := by rw [box_cells y5]; rfl
      have c5 := box_cells h5.b5 0
      have f5 := box_frozen h5.b5 0
      have c60 := box_cells h5.b6 0
      have c61 := box_cells h5.b6 1
      have f60 := box_frozen h5.b6 0
      have f61 := box_frozen h5.b6 1
      simp only [List.getElem?_toArray, List.getElem?_cons_zero, List.getElem?_cons_succ] at c5 c60 c61
      have hBx5 : Bx ≠ w.heap.size + 1 + 1 + 1 + 1 + 1 := by omega
      refine wpIn_region_noPanic ?_
      refine wpIn_region_pick [0, 1, 2, 3] [4, 5] (fun _ => true) (fun w' => w'.cell? ⟨Bx, 2, none⟩ = some (.int .i64 (p.b : Int)) ∧ w'.cell? ⟨Bx, 3, none⟩ = some (.int .i64 (p.to : Int))) (by kernel_rfl) (by kernel_rfl) (fun ⟨_, _, h⟩ => h) (fun _ _ _ _ _ h => h) ⟨x2, x3⟩ (fun hne => ?_)
      have m0 := fun z : Meets (fun w' => w'.cell? ⟨Bx, 2, none⟩ = some (.int .i64 (p.b : Int)) ∧ w'.cell? ⟨Bx, 3, none⟩ = some (.int .i64 (p.to : Int))) => z.property
      have n0 := fun z => (m0 z).1
      have n1 := fun z => (m0 z).2
      clear m0
      simp only [pick, pickN, List.filterMap_cons, List.filterMap_nil, List.getElem?_cons_zero, List.getElem?_cons_succ, Option.map_some]
      repeat (change wpQuiet _ _ _ _ (_ :: _) _; go_big_quiet_step (fail))
      refine wpQuiet_nil ?_
      clear n0 n1 hne
      refine wpSeqP_step (fun K hK => ?_)
      go_simp
      refine hK.out _ _ (fun _ => ⟨by simpa [go_sem, hBx5] using x2, by simpa [go_sem, hBx5] using x3⟩) ?_
      clear hK K
      refine wpSeqP_step (fun K hK => ?_)
      go_simp
      refine hK.out _ _ (fun _ => ⟨by simpa [go_sem, hBx5] using x2, by simpa [go_sem, hBx5] using x3⟩) ?_
      clear hK K
      refine wpSeqP_nil ?_
      refine NoPanic.normal ?_
      gi_wp2
      have hch := (((ch5.trans (chg_box (o := 0) (k := w.heap.size + 1 + 1 + 1 + 1 + 1) W5 (by omega) (.int .i64 T2))).trans (chg_box (o := 0) (k := w.heap.size + 1 + 1 + 1 + 1 + 1 + 1) _ (by omega) (.int .i64 (p.b : Int)))).trans (chg_box (o := 1) (k := w.heap.size + 1 + 1 + 1 + 1 + 1 + 1) _ (by omega) (.int .i64 (p.to : Int)))).trans (Chg.of_below (Below.refl _ _).drew)
      refine ⟨hch.keepsOthers.from _, hch.keep (fun j hj => ?_), ?_, hch.below hbw hbw.size (fun k hk => ?_)⟩
      · rcases hj with rfl | rfl
        · exact ⟨by omega, fun h => by rcases h with h | h <;> omega⟩
        · exact ⟨by omega, fun h => by rcases h with h | h <;> omega⟩
      · rw [Hqe.out]
        refine ⟨u1, u2, u3, ?_⟩
        have h6 := ((h5.setL T2).setB (p.b : Int) (p.to : Int)).below (Below.refl _ _).drew
        have el1 : ∀ l : List Pc, (l ++ [p]).length = l.length + 1 := fun l => by simp
        have el2 : ∀ l : List Pc, lastT te (l ++ [p]) = T2 := fun l => by simp [lastT, HT2.out]
        have el3 : ∀ l : List Pc, lastB (l ++ [p]) = (p.b, p.to) := fun l => by simp [lastB]
        rw [el1, el2, el3, Nat.add_sub_cancel]
        exact h6
      · rcases hk with h | h <;> omega
    · simp only [List.concat_eq_append] at *
      obtain ⟨hq1, hq2⟩ := hps q (hqs q (by simp))
      have hlq : (qs' ++ [q]).length = qs'.length + 1 := by simp
      have hLq : lastT te (qs' ++ [q]) = te q.b q.to := by simp [lastT]
      have hBq : lastB (qs' ++ [q]) = (q.b, q.to) := by simp [lastB]
      have hbr : breaksP tb te ((qs' ++ [q]) ++ [p]) = breaksP tb te (qs' ++ [q]) ++ [T1 - te q.b q.to] := by rw [breaksP_snoc, HT1.out]
      have hrs : restsP d tb te ((qs' ++ [q]) ++ [p]) = restsP d tb te (qs' ++ [q]) ++ [T1 - te q.b q.to - gapP d q p] := by rw [restsP_snoc, HT1.out]
      have hdu : ((qs' ++ [q]) ++ [p]).map (durP tb te) = (qs' ++ [q]).map (durP tb te) ++ [T2 - T1] := by simp [durP, HT1.out, HT2.out]
      have hhd : headT tb ((qs' ++ [q]) ++ [p]) = headT tb (qs' ++ [q]) := by simp [headT]
      obtain ⟨_, ⟨ll, lh⟩⟩ := Hbd.out q.b q.to hq2
      rw [hlq, Nat.add_sub_cancel, hLq, hBq] at hWa0
      rw [hlq] at hql
      simp only at hWa0
      obtain ⟨T0, hT0⟩ : ∃ z, te q.b q.to = z := ⟨_, rfl⟩
      rw [hT0] at ll lh hWa0 hbr hrs
      have hgap0 := (walk_any Hd.out (relAt d.blocks q.b q.to).place (relAt d.blocks p.b p.fr).place)
      obtain ⟨G, hG⟩ : ∃ z, gapP d q p = z := ⟨_, rfl⟩
      have hGw : walkAt d.walk (relAt d.blocks q.b q.to).place (relAt d.blocks p.b p.fr).place = G := hG
      rw [hGw] at hgap0
      obtain ⟨gl, gh⟩ := hgap0
      rw [hG] at hrs
      have HLq := Lib.hid (hLq.trans hT0)
      have HBq := Lib.hid hBq
      have Hlq := Lib.hid hlq
      have Hbr := Lib.hid hbr
      have Hrs := Lib.hid hrs
      have Hdu := Lib.hid hdu
      have Hhd := Lib.hid hhd
      have HGw := Lib.hid hGw
      clear hlq hLq hBq hbr hrs hdu hhd hG hGw hT0
      obtain ⟨A2, c2, rfl⟩ := own_form hWa0.o2
      have qb : IntKind.i64.wrap (T1 - T0) = T1 - T0 := IntWalk.i64_in _ (by omega)
      have qr : IntKind.i64.wrap (T1 - T0 - G) = T1 - T0 - G := IntWalk.i64_in _ (by omega)
      have g30 := box_cells hWa0.b3 0
      have g31 := box_cells hWa0.b3 1
      have f31 := box_frozen hWa0.b3 1
      have g50 := box_cells hWa0.b5 0
      obtain ⟨A1, c1, rfl⟩ := own_form hWa0.o1
      simp only [List.getElem?_toArray, List.getElem?_cons_zero, List.getElem?_cons_succ] at g30 g31 g50
      have q0 : ((qs'.length : Int) + 1 == 0) = false := by
        rw [Bool.eq_false_iff]; intro h; simp only [beq_iff_eq] at h; omega
      have HWa := Lib.hid hWa0
      clear hWa0
      gi_wp2_with (refine wpListIn_append_src _ rfl (.tmp 37) (.tmp 41) 28 rfl W1.heap.size 3 i0 _ 1 8 Try.underlying28 hi0 hz0 hz1 hz2 rfl (by omega) _ qs'.length _ rfl (HWa.out.o2.alloc _) (some ⟨Wa.heap.size, 0, none⟩) 1 1 [.int .i64 (T1 - T0)] rfl (src_newN (xs := [.int .i64 (T1 - T0)]) rfl (by simp)) (by simp [Value.oneCell']) (by unfold maxLen; omega) (by omega) (by simp; omega) ?_; intro A2' c2' w2 hown2 hg2 hat2; have hlow := (grow_low HWa.out.o2 HWa.out.hW hg2 _ (by have := HWa.out.hM; omega)).trans HWa.out.b3; have g32 := box_cells hlow 1; have f32 := box_frozen hlow 1; simp only [List.getElem?_toArray, List.getElem?_cons_zero, List.getElem?_cons_succ] at g32; have Hown2 := Lib.hid hown2; have Hg2 := Lib.hid hg2; have Hat2 := Lib.hid hat2; clear hown2 hg2 hat2 hlow)
      refine wpIn_name (fun W3 => DoW w.heap.size W1.heap.size P (.func fu au cu) (.func fv av cv) W3 (headT tb (qs' ++ [q])) T0 (q.b : Int) (q.to : Int) (.slice A1 (qs'.length + 1) c1) (.slice A2' (qs'.length + 1) c2') v3 (qs'.length + 1) (qs'.length + 1) qs'.length (valsI ((qs' ++ [q]).map (durP tb te))) (valsI (breaksP tb te (qs' ++ [q])) ++ [.int .i64 (T1 - T0)]) (valsI (restsP d tb te (qs' ++ [q]))) ∧
          W3.heap[Bx]? = some (.cells #[.int .i64 (p.b : Int), .int .i64 (p.fr : Int), .int .i64 (p.b : Int), .int .i64 (p.to : Int), .int .i64 (p.first : Int)] 126 (0, 0)) ∧ Chg (DoR w.heap.size W1.heap.size) W W3) ?_ (fun W3 hF => ?_)
      · exact ⟨HWa.out.app2 Hg2.out Hown2.out Hat2.out, blk_other (own_grow HWa.out.o2 HXa.out (by decide) Hg2.out) (by omega) _, (hca.trans (chg_app HWa.out.o2 Hg2.out hRM)).trans (chg_box _ (by omega) _)⟩
      clear g30 g31 f31 g50 q0 HWa HXa hba
      obtain ⟨h3, y3, ch3⟩ := hF
      have hbw3 : Below w.heap.size w W3 := ch3.below hbw hbw.size (fun k hk => by rcases hk with h | h <;> omega)
      have hM3 := h3.hW
      obtain ⟨a1, ha1, hl1⟩ := place_nat Hd.out hq2
      obtain ⟨a2, ha2, hl2⟩ := place_nat Hd.out hi1
      have hpq := fun (W' : World) (hW' : PlanAt W' P d) => place_any P q.b q.to d W' hW' hq2
      have hpp := fun (W' : World) (hW' : PlanAt W' P d) => place_any P p.b p.fr d W' hW' hi1
      have hgw := HGw.out
      rw [ha1, ha2] at hgw
      rw [ha1] at hpq
      rw [ha2] at hpp
      have Hpq := Lib.hid hpq
      have Hpp := Lib.hid hpp
      obtain ⟨_, Aw, _, _, cw, _, _, _, p9, _, _, hrows, _, _⟩ := Hp.out.cells
      obtain ⟨Bw, ow, Bw', ow', cw', rfl, r0, r1, hBw, hBw'⟩ := walk_cells hrows Hd.out hl1 hl2
      rw [hgw] at r1
      replace p9 := cell_below hbw3 p9
      replace r0 := cell_below hbw3 r0
      replace r1 := cell_below hbw3 r1
      have i1 : (a1 : Int) < (d.walk.length : Int) := by omega
      have i2 : (a2 : Int) < (d.walk.length : Int) := by omega
      obtain ⟨A3, c3, rfl⟩ := own_form h3.o3
      have hR3 : ∀ k, (Value.slice A3 qs'.length c3).ownBlock = some k → W1.heap.size ≤ k := fun k hk => (h3.o3.lt k hk).1
      have hRx : (Value.slice A3 qs'.length c3).ownBlock ≠ some Bx := fun e => own_not h3.o3 y3 (by decide) e.symm
      have k3 := box_cells h3.b3 2
      have k5 := box_cells h3.b5 0
      have k0 := box_cells h3.b0 0
      have k6 := box_cells h3.b6 0
      have k7 := box_cells h3.b6 1
      have ky0 : W3.cell? ⟨Bx, 0, none⟩ = some (.int .i64 (p.b : Int)) := by rw [box_cells y3]; rfl
      have ky1 : W3.cell? ⟨Bx, 1, none⟩ = some (.int .i64 (p.fr : Int)) := by rw [box_cells y3]; rfl
      simp only [List.getElem?_toArray, List.getElem?_cons_zero, List.getElem?_cons_succ] at k3 k5 k0 k6 k7
      have hst : ∀ p u, W3.cell? p = some u → p.block < W1.heap.size ∨ p.block = Bx → ∀ z : Meets (Chg (fun k => (Value.slice A3 qs'.length c3).ownBlock = some k) W3), z.val.cell? p = some u := fun p u h hp z =>
        Chg.cell z.property (fun e => by
          rcases hp with hp | hp
          · have := hR3 _ e; omega
          · rw [hp] at e; exact hRx e) h
      have hbelow : ∀ W', Chg (fun k => (Value.slice A3 qs'.length c3).ownBlock = some k) W3 W' → Below w.heap.size w W' := fun W' h => h.below hbw3 hbw3.size (fun k hk => by have := hR3 k hk; omega)
      have t3 := hst _ _ k3 (.inl (by simp only; omega))
      have t5 := hst _ _ k5 (.inl (by simp only; omega))
      have t0 := hst _ _ k0 (.inl (by simp only; omega))
      have t6 := hst _ _ k6 (.inl (by simp only; omega))
      have t7 := hst _ _ k7 (.inl (by simp only; omega))
      have u0 := hst _ _ ky0 (.inr rfl)
      have u1 := hst _ _ ky1 (.inr rfl)
      have t9 := hst _ _ p9 (.inl (by simp only; omega))
      have v0 := hst _ _ r0 (.inl (by simp only; omega))
      have v1' := hst _ _ r1 (.inl (by simp only; omega))
      clear hst k3 k5 k0 k6 k7 ky0 ky1 p9 r0 r1 hrows hpq hpp hgw
      refine wpIn_region_noPanic ?_
      refine wpIn_region_ph [([0, 1, 2, 3, 4, 5, 6, 7, 8, 9, 10, 11, 15, 16, 17, 18], [12]), ([13, 14], [19]), ([20, 21, 22], [23, 24, 25, 26])] (fun j => j != 26) (Chg (fun k => (Value.slice A3 qs'.length c3).ownBlock = some k) W3) (by kernel_rfl) (by kernel_rfl) (fun ⟨_, _, h⟩ => h) (fun _ _ _ _ _ h => h) ?_
      have S0 : Chg (fun k => (Value.slice A3 qs'.length c3).ownBlock = some k) W3 W3.drew := Chg.of_below (Below.refl _ _).drew
      refine wpPh_cons S0 (fun hne => ?_)
      simp only [pick, pickN, List.filterMap_cons, List.filterMap_nil, List.getElem?_cons_zero, List.getElem?_cons_succ, Option.map_some]
      repeat (change wpQuiet _ _ _ _ (_ :: _) _; go_big_quiet_step (fail))
      refine wpQuiet_nil ?_
      refine wpSeqK_step (fun K hK => ?_)
      go_simp
      refine (Hpq.out _ (Hp.out.below (hbelow _ S0))).mono ?_
      rintro e Wc ⟨rfl, hbc⟩
      have S1 := S0.trans (Chg.of_below hbc)
      have B1 : Below W3.heap.size W3 Wc := (Below.refl W3.heap.size W3).drew.trans hbc
      refine hK.out _ _ (fun _ => S1) ?_
      clear hK K hne
      refine wpSeqK_nil ?_
      refine wpPh_cons S1 (fun hne => ?_)
      simp only [pick, pickN, List.filterMap_cons, List.filterMap_nil, List.getElem?_cons_zero, List.getElem?_cons_succ, Option.map_some]
      repeat (change wpQuiet _ _ _ _ (_ :: _) _; go_big_quiet_step (fail))
      refine wpQuiet_nil ?_
      refine wpSeqK_step (fun K hK => ?_)
      go_simp
      refine (Hpp.out _ (Hp.out.below (hbelow _ S1))).mono ?_
      rintro e Wd ⟨rfl, hbd⟩
      have S2 := S1.trans (Chg.of_below hbd)
      have B2 : Below W3.heap.size W3 Wd := B1.trans (hbd.mono B1.size)
      have h3d := h3.below B2
      refine hK.out _ _ (fun _ => S2) ?_
      clear hK K hne
      refine wpSeqK_nil ?_
      refine wpPh_cons S2 (fun hne => ?_)
      simp only [pick, pickN, List.filterMap_cons, List.filterMap_nil, List.getElem?_cons_zero, List.getElem?_cons_succ, Option.map_some]
      repeat (change wpQuiet _ _ _ _ (_ :: _) _; go_big_quiet_step (fail))
      refine wpQuiet_nil ?_
      clear hne t3 t5 t0 t6 t7 u0 u1 t9 v0 v1'
      have Sa : Chg (fun k => (Value.slice A3 qs'.length c3).ownBlock = some k) W3 (Wd.alloc (.cells #[.int .i64 (T1 - T0 - G)] 3)) := S2.trans (Chg.of_below ((Below.refl _ _).alloc (Nat.le_refl _) _))
      refine wpSeqK_step (fun K hK => ?_)
      go_simp
      refine hK.out _ _ (fun _ => Sa) ?_
      clear hK K
      refine wpSeqK_step (fun K hK => ?_)
      refine step_append_src _ rfl (.tmp 45) (.tmp 67) 28 rfl W1.heap.size 3 i0 _ 1 8 Try.underlying28 hi0 hz0 hz1 hz2 rfl (by omega) _ qs'.length _ rfl (h3d.o3.alloc _) (some ⟨Wd.heap.size, 0, none⟩) 1 1 [.int .i64 (T1 - T0 - G)] rfl (src_newN (xs := [.int .i64 (T1 - T0 - G)]) rfl rfl) (by simp [Value.oneCell']) (by unfold maxLen; omega) (by omega) (by have := h3d.hW; simp; omega) ?_
      intro A3' c3' w4 hown4 hg4 hat4
      have hlow4 := (grow_low h3d.o3 h3d.hW hg4 _ (by have := h3d.hM; omega)).trans h3d.b3
      have Sb := Sa.trans (Chg.grown_row (h3d.o3.alloc _) hg4)
      refine hK.out _ _ (fun _ => Sb) ?_
      clear hK K
      refine wpSeqK_step (fun K hK => ?_)
      go_simp
      refine hK.out _ _ (fun _ => Sb) ?_
      clear hK K
      have z0 := box_cells hlow4 2
      have z1 := box_frozen hlow4 2
      simp only [List.getElem?_toArray, List.getElem?_cons_zero, List.getElem?_cons_succ] at z0
      refine wpSeqK_step (fun K hK => ?_)
      go_simp
      refine hK.out _ _ (fun h => by cases h) ?_
      clear hK K
      refine wpSeqK_nil ?_
      refine wpPh_nil ?_
      refine NoPanic.normal ?_
      refine then_name (fun W4 => DoW w.heap.size W1.heap.size P (.func fu au cu) (.func fv av cv) W4 (headT tb (qs' ++ [q])) T0 (q.b : Int) (q.to : Int) (.slice A1 (qs'.length + 1) c1) (.slice A2' (qs'.length + 1) c2') (.slice A3' (qs'.length + 1) c3') (qs'.length + 1) (qs'.length + 1) (qs'.length + 1) (valsI ((qs' ++ [q]).map (durP tb te))) (valsI (breaksP tb te (qs' ++ [q])) ++ [.int .i64 (T1 - T0)]) (valsI (restsP d tb te (qs' ++ [q])) ++ [.int .i64 (T1 - T0 - G)]) ∧
          W4.heap[Bx]? = some (.cells #[.int .i64 (p.b : Int), .int .i64 (p.fr : Int), .int .i64 (p.b : Int), .int .i64 (p.to : Int), .int .i64 (p.first : Int)] 126 (0, 0)) ∧ Chg (DoR w.heap.size W1.heap.size) W W4) ?_ (fun W4 hF => ?_)
      · exact ⟨h3d.app3 hg4 hown4 hat4, blk_other (own_grow h3d.o3 ((B2.block Bx (Array.getElem?_eq_some_iff.1 y3).1).trans y3) (by decide) hg4) (by omega) _, ((ch3.trans (Chg.of_below B2)).trans (chg_app h3d.o3 hg4 hRM)).trans (chg_box _ (by omega) _)⟩
      clear z0 z1 hlow4 Sa Sb S0 S1 S2 B1 B2 h3d hown4 hg4 hat4 hbelow
      obtain ⟨h4, y4, ch4⟩ := hF
      have hM4 := h4.hW
      have g30 := box_cells h4.b3 0
      have f30 := box_frozen h4.b3 0
      simp only [List.getElem?_toArray, List.getElem?_cons_zero] at g30
      have HW4 := Lib.hid h4
      clear h4
      gi_wp2_with (refine wpListIn_append_src _ rfl (.tmp 71) (.tmp 75) 28 rfl W1.heap.size 3 i0 _ 1 8 Try.underlying28 hi0 hz0 hz1 hz2 rfl (by omega) _ (qs'.length + 1) _ rfl (HW4.out.o1.alloc _) (some ⟨W4.heap.size, 0, none⟩) 1 1 [.int .i64 (T2 - T1)] rfl (src_newN (xs := [.int .i64 (T2 - T1)]) rfl rfl) (by simp [Value.oneCell']) (by unfold maxLen; omega) (by omega) (by simp; omega) ?_; intro A1' c1' w5 hown5 hg5 hat5; have hlow := (grow_low HW4.out.o1 HW4.out.hW hg5 _ (by have := HW4.out.hM; omega)).trans HW4.out.b3; have g31 := box_cells hlow 0; have f31 := box_frozen hlow 0; simp only [List.getElem?_toArray, List.getElem?_cons_zero] at g31; have Hown5 := Lib.hid hown5; have Hg5 := Lib.hid hg5; have Hat5 := Lib.hid hat5; clear hown5 hg5 hat5 hlow)
      refine wpIn_name (DoFin d tb te w.heap.size W1.heap.size P (.func fu au cu) (.func fv av cv) (qs' ++ [q]) p Bx W) ?_ (fun W6 hF => ?_)
      · refine ⟨⟨.slice A1' (qs'.length + 1 + 1) c1', .slice A2' (qs'.length + 1) c2', .slice A3' (qs'.length + 1) c3', ?_⟩, blk_other (own_grow HW4.out.o1 y4 (by decide) Hg5.out) (by omega) _, ?_⟩
        · have h5 := HW4.out.app1 Hg5.out Hown5.out Hat5.out
          rw [Hlq.out, HLq.out, HBq.out, Hbr.out, Hrs.out, Hdu.out, Hhd.out]
          simp only [valsI, List.map_append, List.map_cons, List.map_nil] at h5 ⊢
          exact h5
        · exact ((ch4.trans (chg_app HW4.out.o1 Hg5.out hRM))).trans (chg_box _ (by omega) _)
      clear HW4 g30 f30 y4 h3 y3
      obtain ⟨⟨u1, u2, u3, h5⟩, y5, ch5⟩ := hF
      have hM5 := h5.hW
      have x2 : W6.cell? ⟨Bx, 2, none⟩ = some (.int .i64 (p.b : Int)) := by rw [box_cells y5]; rfl
      have x3 : W6.cell? ⟨Bx, 3, none⟩ = some (.int .i64 (p.to : Int)) := by rw [box_cells y5]; rfl
      have c5 := box_cells h5.b5 0
      have f5 := box_frozen h5.b5 0
      have c60 := box_cells h5.b6 0
      have c61 := box_cells h5.b6 1
      have f60 := box_frozen h5.b6 0
      have f61 := box_frozen h5.b6 1
      simp only [List.getElem?_toArray, List.getElem?_cons_zero, List.getElem?_cons_succ] at c5 c60 c61
      have hBx5 : Bx ≠ w.heap.size + 1 + 1 + 1 + 1 + 1 := by omega
      refine wpIn_region_noPanic ?_
      refine wpIn_region_pick [0, 1, 2, 3] [4, 5] (fun _ => true) (fun w' => w'.cell? ⟨Bx, 2, none⟩ = some (.int .i64 (p.b : Int)) ∧ w'.cell? ⟨Bx, 3, none⟩ = some (.int .i64 (p.to : Int))) (by kernel_rfl) (by kernel_rfl) (fun ⟨_, _, h⟩ => h) (fun _ _ _ _ _ h => h) ⟨x2, x3⟩ (fun hne => ?_)
      have m0 := fun z : Meets (fun w' => w'.cell? ⟨Bx, 2, none⟩ = some (.int .i64 (p.b : Int)) ∧ w'.cell? ⟨Bx, 3, none⟩ = some (.int .i64 (p.to : Int))) => z.property
      have n0 := fun z => (m0 z).1
      have n1 := fun z => (m0 z).2
      clear m0
      simp only [pick, pickN, List.filterMap_cons, List.filterMap_nil, List.getElem?_cons_zero, List.getElem?_cons_succ, Option.map_some]
      repeat (change wpQuiet _ _ _ _ (_ :: _) _; go_big_quiet_step (fail))
      refine wpQuiet_nil ?_
      clear n0 n1 hne
      refine wpSeqP_step (fun K hK => ?_)
      go_simp
      refine hK.out _ _ (fun _ => ⟨by simpa [go_sem, hBx5] using x2, by simpa [go_sem, hBx5] using x3⟩) ?_
      clear hK K
      refine wpSeqP_step (fun K hK => ?_)
      go_simp
      refine hK.out _ _ (fun _ => ⟨by simpa [go_sem, hBx5] using x2, by simpa [go_sem, hBx5] using x3⟩) ?_
      clear hK K
      refine wpSeqP_nil ?_
      refine NoPanic.normal ?_
      gi_wp2
      have hch := (((ch5.trans (chg_box (o := 0) (k := w.heap.size + 1 + 1 + 1 + 1 + 1) W6 (by omega) (.int .i64 T2))).trans (chg_box (o := 0) (k := w.heap.size + 1 + 1 + 1 + 1 + 1 + 1) _ (by omega) (.int .i64 (p.b : Int)))).trans (chg_box (o := 1) (k := w.heap.size + 1 + 1 + 1 + 1 + 1 + 1) _ (by omega) (.int .i64 (p.to : Int)))).trans (Chg.of_below (Below.refl _ _).drew)
      refine ⟨hch.keepsOthers.from _, hch.keep (fun j hj => ?_), ?_, hch.below hbw hbw.size (fun k hk => ?_)⟩
      · rcases hj with rfl | rfl
        · exact ⟨by omega, fun h => by rcases h with h | h <;> omega⟩
        · exact ⟨by omega, fun h => by rcases h with h | h <;> omega⟩
      · rw [Hqe.out]
        refine ⟨u1, u2, u3, ?_⟩
        have h6 := ((h5.setL T2).setB (p.b : Int) (p.to : Int)).below (Below.refl _ _).drew
        have el1 : ∀ l : List Pc, (l ++ [p]).length = l.length + 1 := fun l => by simp
        have el2 : ∀ l : List Pc, lastT te (l ++ [p]) = T2 := fun l => by simp [lastT, HT2.out]
        have el3 : ∀ l : List Pc, lastB (l ++ [p]) = (p.b, p.to) := fun l => by simp [lastB]
        rw [el1, el2, el3, Nat.add_sub_cancel]
        exact h6
      · rcases hk with h | h <;> omega
  case done =>
    rintro D ys W hD rfl ⟨hdo, hbw⟩ hK
    rw [ups_map ps rfl (fun x => ps[x.1]) (fun x => List.getElem?_eq_getElem x.2) ps.length (Nat.le_refl _), List.take_length] at hdo
    obtain ⟨v1, v2, v3, h⟩ := hdo.st
    have hM := h.hM
    have hMW := h.hW
    obtain ⟨p, hp⟩ : ∃ p, ps.head? = some p := by
      cases e : ps.head? with
      | none => exact absurd (List.head?_eq_none_iff.1 e) hne
      | some p => exact ⟨p, rfl⟩
    obtain ⟨q, hq⟩ : ∃ q, ps.getLast? = some q := by
      cases e : ps.getLast? with
      | none => exact absurd (List.getLast?_eq_none_iff.1 e) hne
      | some q => exact ⟨q, rfl⟩
    have eF : headT tb ps = tb p.b p.fr := by simp [headT, hp]
    have eL : lastT te ps = te q.b q.to := by simp [lastT, hq]
    have eS : spreadP d tb te ps = te q.b q.to + d.law.off - tb p.b p.fr + d.law.on := by simp [spreadP, hp, hq]
    obtain ⟨⟨bl1, bh1⟩, _⟩ := Hbd.out p.b p.fr (hps p (List.mem_of_head? hp)).1
    obtain ⟨_, ⟨bl2, bh2⟩⟩ := Hbd.out q.b q.to (hps q (List.mem_of_getLast? hq)).2
    obtain ⟨ol, oh⟩ := Hd.out.law.off
    obtain ⟨nl, nh⟩ := Hd.out.law.on
    rw [eF, eL] at h
    obtain ⟨T1, hT1⟩ : ∃ z, tb p.b p.fr = z := ⟨_, rfl⟩
    obtain ⟨T2, hT2⟩ : ∃ z, te q.b q.to = z := ⟨_, rfl⟩
    rw [hT1] at h bl1 bh1 eS
    rw [hT2] at h bl2 bh2 eS
    obtain ⟨A1, c1, rfl⟩ := own_form h.o1
    obtain ⟨A2, c2, rfl⟩ := own_form h.o2
    obtain ⟨A3, c3, rfl⟩ := own_form h.o3
    have w1 : IntKind.i64.wrap (T2 + d.law.off) = T2 + d.law.off := IntWalk.i64_in _ (by omega)
    have w2 : IntKind.i64.wrap (T2 + d.law.off - T1) = T2 + d.law.off - T1 := IntWalk.i64_in _ (by omega)
    have w3 : IntKind.i64.wrap (T2 + d.law.off - T1 + d.law.on) = T2 + d.law.off - T1 + d.law.on := IntWalk.i64_in _ (by omega)
    obtain ⟨_, _, _, _, _, _, ⟨_, _, _, _, p4, p5, _, _⟩, _⟩ := (Hp.out.below hbw).cells
    have k5 := box_cells h.b5 0
    have k4 := box_cells h.b4 0
    have k0 := box_cells h.b0 0
    have k33 := box_cells h.b3 3
    have f33 := box_frozen h.b3 3
    simp only [List.getElem?_toArray, List.getElem?_cons_zero, List.getElem?_cons_succ] at k5 k4 k0 k33
    have Hh := Lib.hid h
    have HeS := Lib.hid eS
    clear hp hq hT1 hT2 eF eL eS h hdo
    gi_wp2_with fail
    refine wpIn_wide.2 ?_
    refine wp_region_noPanic ?_
    refine wp_region_pick [0, 1, 2, 3, 4, 5, 6, 7, 8, 9, 10, 11, 12, 13, 14, 15, 16, 17] [18] (fun j => j != 18) (fun w' => Below W.heap.size W w') (by kernel_rfl) (by kernel_rfl) (fun _ _ _ _ _ h => h) (Below.refl _ _).drew (fun hne => ?_)
    have n0 := fun z : Meets (fun w' => Below W.heap.size W w') => cell_below z.property k5
    have n1 := fun z : Meets (fun w' => Below W.heap.size W w') => cell_below z.property k4
    have n2 := fun z : Meets (fun w' => Below W.heap.size W w') => cell_below z.property k0
    have n3 := fun z : Meets (fun w' => Below W.heap.size W w') => cell_below z.property p4
    have n4 := fun z : Meets (fun w' => Below W.heap.size W w') => cell_below z.property p5
    simp only [pick, pickN, List.filterMap_cons, List.filterMap_nil, List.getElem?_cons_zero, List.getElem?_cons_succ, Option.map_some]
    repeat (change wpQuiet _ _ _ _ (_ :: _) _; go_big_quiet_step (fail))
    refine wpQuiet_nil ?_
    clear n0 n1 n2 n3 n4 hne
    refine wpSeqP_step (fun K hK => ?_)
    go_simp
    refine hK.out _ _ (fun h => by cases h) ?_
    clear hK K
    refine wpSeqP_nil ?_
    refine NoPanic.normal ?_
    have hS := HeS.out
    refine then_name (fun W7 => W7.ownsRow W1.heap.size 3 1 (.slice A1 ps.length c1) ps.length (valsI (ps.map (durP tb te))) ∧ W7.ownsRow W1.heap.size 3 1 (.slice A2 (ps.length - 1) c2) (ps.length - 1) (valsI (breaksP tb te ps)) ∧
      W7.ownsRow W1.heap.size 3 1 (.slice A3 (ps.length - 1) c3) (ps.length - 1) (valsI (restsP d tb te ps)) ∧ W7.heap[w.heap.size + 1 + 1 + 1]? = some (.cells #[.slice A1 ps.length c1, .slice A2 (ps.length - 1) c2, .slice A3 (ps.length - 1) c3, .int .i64 (spreadP d tb te ps)] 106 (0, 0)) ∧
      W7.heap[w.heap.size + 1 + 1]? = some (.cells #[.slice none 0 0, .slice none 0 0, .slice none 0 0, .int .i64 0] 106 (0, 0)) ∧ W7.heap[D]? = some (.deferred (some [])) ∧ Below w.heap.size w W7) ?_ (fun W7 hF => ?_)
    · have h := Hh.out
      rw [hS]
      exact ⟨own_setN h.o1 (by simp only; omega) _, own_setN h.o2 (by simp only; omega) _, own_setN h.o3 (by simp only; omega) _, blk_set h.b3 _, blk_other h.b2 (by omega) _, (KeepsOthers.setCell _ _ _).same _ _ hK rfl, (hbw.setCell (p := ⟨w.heap.size + 1 + 1 + 1, 3, none⟩) (by simp only; omega) _).drew⟩
    obtain ⟨o1, o2, o3, b3, b2, hD7, hb7⟩ := hF
    clear Hh HeS hS k5 k4 k0 k33 f33 p4 p5 w1 w2 w3
    have j0 := box_cells b3 0
    have j1 := box_cells b3 1
    have j2 := box_cells b3 2
    have j3 := box_cells b3 3
    have l0 := box_cells b2 0
    have l1 := box_cells b2 1
    have l2 := box_cells b2 2
    have l3 := box_cells b2 3
    have m0 := box_frozen b2 0
    have m1 := box_frozen b2 1
    have m2 := box_frozen b2 2
    have m3 := box_frozen b2 3
    simp only [List.getElem?_toArray, List.getElem?_cons_zero, List.getElem?_cons_succ] at j0 j1 j2 j3 l0 l1 l2 l3
    have hDne : D ≠ w.heap.size + 1 + 1 := by omega
    have HO1 := Lib.hid o1
    have HO2 := Lib.hid o2
    have HO3 := Lib.hid o3
    have HD := Lib.hid hD7
    have Hb3 := Lib.hid b3
    have Hb2 := Lib.hid b2
    clear o1 o2 o3 hD7 b3 b2
    gi_wp2
    have hM2 : w.heap.size + 1 + 1 < W1.heap.size := by omega
    have q1 := own_setN (own_setN (own_setN (own_setN HO1.out (p := ⟨w.heap.size + 1 + 1, 0, none⟩) hM2 (.slice A1 ps.length c1)) (p := ⟨w.heap.size + 1 + 1, 1, none⟩) hM2 (.slice A2 (ps.length - 1) c2)) (p := ⟨w.heap.size + 1 + 1, 2, none⟩) hM2 (.slice A3 (ps.length - 1) c3)) (p := ⟨w.heap.size + 1 + 1, 3, none⟩) hM2 (.int .i64 (spreadP d tb te ps))
    have q2 := own_setN (own_setN (own_setN (own_setN HO2.out (p := ⟨w.heap.size + 1 + 1, 0, none⟩) hM2 (.slice A1 ps.length c1)) (p := ⟨w.heap.size + 1 + 1, 1, none⟩) hM2 (.slice A2 (ps.length - 1) c2)) (p := ⟨w.heap.size + 1 + 1, 2, none⟩) hM2 (.slice A3 (ps.length - 1) c3)) (p := ⟨w.heap.size + 1 + 1, 3, none⟩) hM2 (.int .i64 (spreadP d tb te ps))
    have q3 := own_setN (own_setN (own_setN (own_setN HO3.out (p := ⟨w.heap.size + 1 + 1, 0, none⟩) hM2 (.slice A1 ps.length c1)) (p := ⟨w.heap.size + 1 + 1, 1, none⟩) hM2 (.slice A2 (ps.length - 1) c2)) (p := ⟨w.heap.size + 1 + 1, 2, none⟩) hM2 (.slice A3 (ps.length - 1) c3)) (p := ⟨w.heap.size + 1 + 1, 3, none⟩) hM2 (.int .i64 (spreadP d tb te ps))
    have q4 := blk_set (o := 3) (blk_set (o := 2) (blk_set (o := 1) (blk_set (o := 0) Hb2.out (.slice A1 ps.length c1)) (.slice A2 (ps.length - 1) c2)) (.slice A3 (ps.length - 1) c3)) (.int .i64 (spreadP d tb te ps))
    have q5 := (((KeepsOthers.setCell W7 ⟨w.heap.size + 1 + 1, 0, none⟩ (.slice A1 ps.length c1)).trans (KeepsOthers.setCell _ ⟨w.heap.size + 1 + 1, 1, none⟩ (.slice A2 (ps.length - 1) c2))).trans (KeepsOthers.setCell _ ⟨w.heap.size + 1 + 1, 2, none⟩ (.slice A3 (ps.length - 1) c3))).trans (KeepsOthers.setCell _ ⟨w.heap.size + 1 + 1, 3, none⟩ (.int .i64 (spreadP d tb te ps)))
    have q6 := (((hb7.setCell (p := ⟨w.heap.size + 1 + 1, 0, none⟩) (by simp only; omega) (.slice A1 ps.length c1)).setCell (p := ⟨w.heap.size + 1 + 1, 1, none⟩) (by simp only; omega) (.slice A2 (ps.length - 1) c2)).setCell (p := ⟨w.heap.size + 1 + 1, 2, none⟩) (by simp only; omega) (.slice A3 (ps.length - 1) c3)).setCell (p := ⟨w.heap.size + 1 + 1, 3, none⟩) (by simp only; omega) (.int .i64 (spreadP d tb te ps))
    have hD8 := q5.same _ _ HD.out rfl
    clear j0 j1 j2 j3 l0 l1 l2 l3 m0 m1 m2 m3
    generalize (((W7.setCell ⟨w.heap.size + 1 + 1, 0, none⟩ (.slice A1 ps.length c1)).setCell ⟨w.heap.size + 1 + 1, 1, none⟩ (.slice A2 (ps.length - 1) c2)).setCell ⟨w.heap.size + 1 + 1, 2, none⟩ (.slice A3 (ps.length - 1) c3)).setCell ⟨w.heap.size + 1 + 1, 3, none⟩ (.int .i64 (spreadP d tb te ps)) = W8 at *
    have hOpen : OpenMarks w.heap.size W8 [D] := ⟨by simp, fun d' hd' => by
      simp only [List.mem_singleton] at hd'
      subst hd'
      exact ⟨by omega, hD8⟩⟩
    refine leaves_marks w.heap.size [D] W8 hOpen (fun W' hb' hk' => ?_)
    have r4 := hk' _ _ q4 rfl
    have own : ∀ {v : Value} {n : Nat} {xs : List Value}, W8.ownsRow W1.heap.size 3 1 v n xs → W'.ownsRow W1.heap.size 3 1 v n xs := by
      intro v n xs h
      refine ⟨h.1, ?_⟩
      rcases h.2 with h0 | ⟨g, cap, cur, h1, h2, h3, h4⟩
      · exact .inl h0
      · exact .inr ⟨g, cap, cur, h1, h2, hk' _ _ h3 rfl, h4⟩
    have z0 := box_cells r4 0
    have z1 := box_cells r4 1
    have z2 := box_cells r4 2
    have z3 := box_cells r4 3
    simp only [List.setIfInBounds_toArray, List.set_cons_succ, List.set_cons_zero, List.getElem?_toArray, List.getElem?_cons_zero, List.getElem?_cons_succ] at z0 z1 z2 z3
    refine ⟨.agg #[.slice A1 ps.length c1, .slice A2 (ps.length - 1) c2, .slice A3 (ps.length - 1) c3, .int .i64 (spreadP d tb te ps)], ?_, ⟨A1, A2, A3, c1, c2, c3, rfl, ?_, ?_, ?_, ?_, q6.trans hb'⟩⟩
    · simp [results, Try.results51, go_sem, z0, z1, z2, z3]
    · have h := nums_of_own (n := ps.length) (l := ps.map (durP tb te)) (own q1)
      exact h
    · exact nums_of_own (own q2)
    · exact nums_of_own (own q3)
    · exact own_mono (own q2) (by omega)
  case stop =>
    rintro D c pre W _ _ h _
    exact h.elim
theorem do_any (P x : Nat) (d : DDay) (tb te : Nat → Nat → Int) (fu fv : Fn) (au av cu cv : Array Value) (w : World) (hd : DayOk d) (hp : PlanAt w P d) (hx : x < 2 ^ segN d.blocks) (h0 : x ≠ 0)
    (hu : Tells w d (.func fu au cu) tb) (hv : Tells w d (.func fv av cv) te) (hbd : ∀ b i, InDay d b i → (0 ≤ tb b i ∧ tb b i ≤ 3000) ∧ (0 ≤ te b i ∧ te b i ≤ 3000)) :
    Calls Try.prog 51 #[.pointer (some ⟨P, 0, none⟩), .int .u16 (x : Int), .agg #[.func fu au cu, .func fv av cv]] w (GivesWork d tb te (piecesL d (bitsL (segN d.blocks) x)) w) :=
  (do_own P x d tb te fu fv au av cu cv w hd hp hx h0 hu hv hbd).mono fun e w' ⟨A1, A2, A3, c1, c2, c3, he, n1, n2, n3, _, hb⟩ => ⟨A1, A2, A3, c1, c2, c3, he, n1, n2, n3, hb⟩
end Go.Proofs.Ytllobkhdeahgpaa
namespace Go.Proofs.Ytllobkhdeahgpaa
open Go Go.Proofs Go.RowKit

/-! ### What work is like -/
/-- The greatest one of some numbers. -/
def maxK (a : Int) (l : List Int) : Int := l.foldl max a
theorem maxK_snoc (a : Int) (l : List Int) (x : Int) : maxK a (l ++ [x]) = max (maxK a l) x := by simp [maxK, List.foldl_append]
theorem maxK_le {M : Int} : ∀ (l : List Int) (a : Int), maxK a l ≤ M ↔ a ≤ M ∧ ∀ x ∈ l, x ≤ M
  | [], a => by simp [maxK]
  | x :: t, a => by
    have := maxK_le (M := M) t (max a x)
    simp only [maxK, List.foldl_cons] at this ⊢
    rw [this]
    simp only [List.mem_cons, forall_eq_or_imp]
    constructor
    · rintro ⟨h1, h2⟩
      exact ⟨by omega, by omega, h2⟩
    · rintro ⟨h1, h2, h3⟩
      exact ⟨by omega, h3⟩
theorem Max_same (v : Value) (a : Int) (l : List Int) (w : World) (hv : NumsAt .i64 w v (a :: l)) : Calls Try.prog 79 #[v] w (Same w (.int .i64 (maxK a l))) := by
  obtain ⟨A, c, rfl, hc, hm⟩ := hv.form
  obtain ⟨b, o, x, rfl, hx, c0, hb⟩ := hv.at_ (k := 0) (by simp)
  simp only [List.getElem?_cons_zero, Option.some.injEq] at hx
  subst hx
  simp only [List.length_cons, Nat.add_zero] at *
  go_enter Try.func79, Try.ntmps79
  go_wp2
  go_loop [3, 4] (fun m j => ∃ k : Nat, k ≤ l.length ∧ j = .int .i64 ((k : Int) + 1) ∧ m = .int .i64 (maxK a (l.take k))) (fun m j => l.length + 1 - (intOf j).toNat)
  case atStart => exact ⟨0, by omega, rfl, rfl⟩
  case round =>
    obtain ⟨k, hk, rfl, rfl⟩ := hrel
    by_cases hlt : k < l.length
    · obtain ⟨b2, o2, y, e, hy, c1, _⟩ := hv.at_ (k := k + 1) (by simp; omega)
      cases e
      simp only [List.getElem?_cons_succ] at hy
      have hs : maxK a (l.take (k + 1)) = max (maxK a (l.take k)) y := by
        rw [List.take_add_one, hy]
        exact maxK_snoc _ _ _
      have Hs := Lib.hid hs
      clear hs hy
      have i1 : (k : Int) + 1 < (l.length : Int) + 1 := by omega
      generalize maxK a (l.take k) = M at *
      go_wp2
      go_round
      case rel => exact ⟨k + 1, by omega, by go_num, by rw [Hs.out]⟩
      case measure => simp [intOf]; omega
    · obtain rfl : k = l.length := by omega
      go_wp2
      go_ret
      exact same_int rfl
theorem greatest_same (v : Value) (a : Int) (l : List Int) (w : World) (hv : NumsAt .i64 w v (a :: l)) : Calls Try.prog 65 #[v] w (Same w (.int .i64 (maxK a l))) := by
  have Hm := Lib.hid (Max_same v a l w hv)
  clear hv
  go_enter Try.func65, Try.ntmps65
  go_wp2_with (go_at_call 79; refine Hm.out.mono ?_; rintro e w1 ⟨rfl, rfl⟩)
  go_ret
  exact ⟨rfl, rfl⟩
/-- Work in memory: its three lists. -/
structure WorkAt (w : World) (v1 v2 v3 : Value) (l1 l2 l3 : List Int) : Prop where
  p : NumsAt .i64 w v1 l1
  b : NumsAt .i64 w v2 l2
  r : NumsAt .i64 w v3 l3
theorem WorkAt.below {w w' : World} {v1 v2 v3 : Value} {l1 l2 l3 : List Int} (h : WorkAt w v1 v2 v3 l1 l2 l3) (hb : Below w.heap.size w w') : WorkAt w' v1 v2 v3 l1 l2 l3 := ⟨h.p.below hb, h.b.below hb, h.r.below hb⟩
theorem sumD_take {l : List Int} {k : Nat} {x : Int} (h : l[k]? = some x) : sumD (l.take (k + 1)) = sumD (l.take k) + x := by
  obtain ⟨hk, rfl⟩ := List.getElem?_eq_some_iff.1 h
  rw [List.take_succ_eq_append_getElem hk]
  have : ∀ (a : List Int) (y : Int), sumD (a ++ [y]) = sumD a + y := by
    intro a y
    induction a with
    | nil => simp [sumD]
    | cons z a ih => simp only [List.cons_append, sumD, ih]; omega
  exact this _ _
/-- All partial sums are far from the ends of int. -/
def SumDOk (l : List Int) : Prop := ∀ k, k ≤ l.length → -4611686018427387904 ≤ sumD (l.take k) ∧ sumD (l.take k) ≤ 4611686018427387904
theorem sumDOk_of {l : List Int} (hn : l.length ≤ 1000) (h : ∀ x ∈ l, -1000000 ≤ x ∧ x ≤ 1000000) : SumDOk l := by
  have key : ∀ (m : List Int), (∀ x ∈ m, -1000000 ≤ x ∧ x ≤ 1000000) → -1000000 * (m.length : Int) ≤ sumD m ∧ sumD m ≤ 1000000 * (m.length : Int) := by
    intro m
    induction m with
    | nil => intro _; simp [sumD]
    | cons a m ih =>
      intro hm
      have h1 := ih fun x hx => hm x (by simp [hx])
      have h2 := hm a (by simp)
      simp only [sumD, List.length_cons]
      push_cast
      omega
  intro k hk
  have h1 := key (l.take k) fun x hx => h x (List.mem_of_mem_take hx)
  have h2 : (l.take k).length ≤ 1000 := by simp; omega
  omega
set_option maxRecDepth 100000 in
theorem drive_any (v1 v2 v3 : Value) (S : Int) (l1 l2 l3 : List Int) (w : World) (hw : WorkAt w v1 v2 v3 l1 l2 l3) (hok : SumDOk l1) :
    Calls Try.prog 52 #[.agg #[v1, v2, v3, .int .i64 S]] w (Gives w (.int .i64 (sumD l1))) := by
  obtain ⟨A1, c1, rfl, hc, hm⟩ := hw.p.form
  obtain ⟨A2, c2, rfl, _, _⟩ := hw.b.form
  obtain ⟨A3, c3, rfl, _, _⟩ := hw.r.form
  have hb0 : Below w.heap.size w (w.alloc (.cells #[.slice A1 l1.length c1, .slice A2 l2.length c2, .slice A3 l3.length c3, .int .i64 S] 106)) := (Below.refl _ _).alloc (Nat.le_refl _) _
  have hp := hw.p.below hb0
  have Hok := Lib.hid hok
  clear hok hw
  go_enter Try.func52, Try.ntmps52
  go_wp2
  go_loop [2, 8] (fun s j => ∃ k : Nat, k ≤ l1.length ∧ j = .int .i64 k ∧ s = .int .i64 (sumD (l1.take k))) (fun s j => l1.length - (intOf j).toNat)
  case atStart => exact ⟨0, by omega, rfl, rfl⟩
  case round =>
    obtain ⟨k, hk, rfl, rfl⟩ := hrel
    by_cases hlt : k < l1.length
    · obtain ⟨b, o, y, rfl, hy, c0, hb⟩ := hp.at_ hlt
      have hs := sumD_take hy
      have h1 := Hok.out (k + 1) (by omega)
      have h0 := Hok.out k (by omega)
      rw [hs] at h1
      have Hs := Lib.hid hs
      clear hs hy
      generalize sumD (l1.take k) = Z at *
      go_wp2
      go_round
      case rel => exact ⟨k + 1, by omega, by go_num, by rw [Hs.out]⟩
      case measure => simp [intOf]; omega
    · obtain rfl : k = l1.length := by omega
      go_wp2
      go_ret
      exact gives_int (by simp) hb0
end Go.Proofs.Ytllobkhdeahgpaa
namespace Go.Proofs.Ytllobkhdeahgpaa
open Go Go.Proofs Go.RowKit

/-! ### The questions of the law -/
section
variable (L : DLaw) (v1 v2 v3 : Value) (S : Int) (l1 l2 l3 : List Int) (w : World)
theorem two_below (o o' : Obj) : Below w.heap.size w ((w.alloc o).alloc o') := ((Below.refl _ _).alloc (Nat.le_refl _) _).alloc (by simp) _
set_option maxRecDepth 100000 in
theorem many_any (hw : WorkAt w v1 v2 v3 l1 l2 l3) : Calls Try.prog 86 #[.agg #[.int .i64 L.piece, .int .i64 L.drive, .int .i64 L.spread, .int .i64 L.brk, .int .i64 L.on, .int .i64 L.off, .int .i64 L.least, .int .i64 L.pieces], .agg #[v1, v2, v3, .int .i64 S]] w (Gives w (.bool (decide ((l1.length : Int) ≤ L.pieces)))) := by
  obtain ⟨A1, c1, rfl, hc, hm⟩ := hw.p.form
  obtain ⟨A2, c2, rfl, _, _⟩ := hw.b.form
  obtain ⟨A3, c3, rfl, _, _⟩ := hw.r.form
  clear hw
  go_enter Try.func86, Try.ntmps86
  go_wp2
  go_ret
  exact ⟨rfl, two_below w _ _⟩
set_option maxRecDepth 100000 in
theorem near_any (hw : WorkAt w v1 v2 v3 l1 l2 l3) : Calls Try.prog 90 #[.agg #[.int .i64 L.piece, .int .i64 L.drive, .int .i64 L.spread, .int .i64 L.brk, .int .i64 L.on, .int .i64 L.off, .int .i64 L.least, .int .i64 L.pieces], .agg #[v1, v2, v3, .int .i64 S]] w (Gives w (.bool (decide (S ≤ L.spread)))) := by
  obtain ⟨A1, c1, rfl, hc, hm⟩ := hw.p.form
  obtain ⟨A2, c2, rfl, _, _⟩ := hw.b.form
  obtain ⟨A3, c3, rfl, _, _⟩ := hw.r.form
  clear hw
  go_enter Try.func90, Try.ntmps90
  go_wp2
  go_ret
  exact ⟨rfl, two_below w _ _⟩
set_option maxRecDepth 100000 in
theorem short_any (a : Int) (l : List Int) (hw : WorkAt w v1 v2 v3 (a :: l) l2 l3) : Calls Try.prog 87 #[.agg #[.int .i64 L.piece, .int .i64 L.drive, .int .i64 L.spread, .int .i64 L.brk, .int .i64 L.on, .int .i64 L.off, .int .i64 L.least, .int .i64 L.pieces], .agg #[v1, v2, v3, .int .i64 S]] w (Gives w (.bool (decide (maxK a l ≤ L.piece)))) := by
  obtain ⟨A1, c1, rfl, hc, hm⟩ := hw.p.form
  obtain ⟨A2, c2, rfl, _, _⟩ := hw.b.form
  obtain ⟨A3, c3, rfl, _, _⟩ := hw.r.form
  have hb := two_below w (.cells #[.int .i64 L.piece, .int .i64 L.drive, .int .i64 L.spread, .int .i64 L.brk, .int .i64 L.on, .int .i64 L.off, .int .i64 L.least, .int .i64 L.pieces] 36 (0, 0)) (.cells #[.slice A1 (a :: l).length c1, .slice A2 l2.length c2, .slice A3 l3.length c3, .int .i64 S] 106 (0, 0))
  have Hp := Lib.hid (hw.p.below hb)
  have Hb := Lib.hid hb
  clear hw hb
  simp only [List.length_cons] at *
  go_enter Try.func87, Try.ntmps87
  go_wp2_with fail
  refine wp_name (fun W => Below w.heap.size w W ∧ NumsAt .i64 W (.slice A1 (l.length + 1) c1) (a :: l) ∧ W.cell? ⟨w.heap.size, 0, none⟩ = some (.int .i64 L.piece) ∧ W.cell? ⟨w.heap.size + 1, 0, none⟩ = some (.slice A1 (l.length + 1) c1)) ⟨Hb.out, Hp.out, by simp [go_sem], by simp [go_sem]⟩ (fun W hF => ?_)
  obtain ⟨hW, hn, c0, c1'⟩ := hF
  replace c0 := Later.cell c0
  replace c1' := Later.cell c1'
  refine wp_region_later (by kernel_rfl) (by kernel_rfl) ?_
  repeat (go_big_quiet_step ((go_at_call 65; exact Later.call (Same.gives (greatest_same _ a l _ (hn.below (Subtype.property _)))))))
  refine wpQuiet_nil ?_
  intro w2 hL2
  have hb2 := Later.out hL2
  clear hL2 c0 c1'
  go_wp2
  go_ret
  exact ⟨rfl, hW.trans (hb2.mono hW.size)⟩
set_option maxRecDepth 100000 in
theorem little_any (hw : WorkAt w v1 v2 v3 l1 l2 l3) (hok : SumDOk l1) : Calls Try.prog 88 #[.agg #[.int .i64 L.piece, .int .i64 L.drive, .int .i64 L.spread, .int .i64 L.brk, .int .i64 L.on, .int .i64 L.off, .int .i64 L.least, .int .i64 L.pieces], .agg #[v1, v2, v3, .int .i64 S]] w (Gives w (.bool (decide (sumD l1 ≤ L.drive)))) := by
  obtain ⟨A1, c1, rfl, hc, hm⟩ := hw.p.form
  obtain ⟨A2, c2, rfl, _, _⟩ := hw.b.form
  obtain ⟨A3, c3, rfl, _, _⟩ := hw.r.form
  have hb := two_below w (.cells #[.int .i64 L.piece, .int .i64 L.drive, .int .i64 L.spread, .int .i64 L.brk, .int .i64 L.on, .int .i64 L.off, .int .i64 L.least, .int .i64 L.pieces] 36 (0, 0)) (.cells #[.slice A1 l1.length c1, .slice A2 l2.length c2, .slice A3 l3.length c3, .int .i64 S] 106 (0, 0))
  have Hp := Lib.hid (hw.below hb)
  have Hb := Lib.hid hb
  have Hok := Lib.hid hok
  clear hw hb hok
  go_enter Try.func88, Try.ntmps88
  go_wp2_with fail
  refine wp_name (fun W => Below w.heap.size w W ∧ WorkAt W (.slice A1 l1.length c1) (.slice A2 l2.length c2) (.slice A3 l3.length c3) l1 l2 l3 ∧ W.cell? ⟨w.heap.size, 1, none⟩ = some (.int .i64 L.drive) ∧ W.cell? ⟨w.heap.size + 1, 0, none⟩ = some (.slice A1 l1.length c1) ∧
    W.cell? ⟨w.heap.size + 1, 1, none⟩ = some (.slice A2 l2.length c2) ∧ W.cell? ⟨w.heap.size + 1, 2, none⟩ = some (.slice A3 l3.length c3) ∧ W.cell? ⟨w.heap.size + 1, 3, none⟩ = some (.int .i64 S)) ⟨Hb.out, Hp.out, by simp [go_sem], by simp [go_sem], by simp [go_sem], by simp [go_sem], by simp [go_sem]⟩ (fun W hF => ?_)
  obtain ⟨hW, hn, c0, e0, e1, e2, e3⟩ := hF
  replace c0 := Later.cell c0
  replace e0 := Later.cell e0
  replace e1 := Later.cell e1
  replace e2 := Later.cell e2
  replace e3 := Later.cell e3
  refine wp_region_later (by kernel_rfl) (by kernel_rfl) ?_
  repeat (go_big_quiet_step ((go_at_call 52; exact Later.call (drive_any _ _ _ _ l1 l2 l3 _ (hn.below (Subtype.property _)) Hok.out))))
  refine wpQuiet_nil ?_
  intro w2 hL2
  have hb2 := Later.out hL2
  clear hL2 c0 e0 e1 e2 e3
  go_wp2
  go_ret
  exact ⟨rfl, hW.trans (hb2.mono hW.size)⟩
theorem rest1_any (Q : Nat) (n k : Int) (hq : w.cell? ⟨Q, 3, none⟩ = some (.int .i64 k)) : Calls Try.prog 98 #[.int .i64 n, .pointer (some ⟨Q, 0, none⟩)] w (Gives w (.bool (decide (k ≤ n)))) := by
  have hQ := World.block_lt_of_cell? _ _ hq
  go_enter Try.func98, Try.ntmps98
  go_wp2
  go_ret
  exact ⟨rfl, Below.refl _ _⟩
set_option maxRecDepth 100000 in
theorem rested_any (hw : WorkAt w v1 v2 v3 l1 l2 l3) : Calls Try.prog 89 #[.agg #[.int .i64 L.piece, .int .i64 L.drive, .int .i64 L.spread, .int .i64 L.brk, .int .i64 L.on, .int .i64 L.off, .int .i64 L.least, .int .i64 L.pieces], .agg #[v1, v2, v3, .int .i64 S]] w (Gives w (.bool (l3.all fun n => decide (L.brk ≤ n)))) := by
  obtain ⟨A1, c1, rfl, hc, hm⟩ := hw.p.form
  obtain ⟨A2, c2, rfl, _, _⟩ := hw.b.form
  obtain ⟨A3, c3, rfl, _, _⟩ := hw.r.form
  have hb := two_below w (.cells #[.int .i64 L.piece, .int .i64 L.drive, .int .i64 L.spread, .int .i64 L.brk, .int .i64 L.on, .int .i64 L.off, .int .i64 L.least, .int .i64 L.pieces] 36 (0, 0)) (.cells #[.slice A1 l1.length c1, .slice A2 l2.length c2, .slice A3 l3.length c3, .int .i64 S] 106 (0, 0))
  have hr := hw.r.below hb
  have c3' : ((w.alloc (.cells #[.int .i64 L.piece, .int .i64 L.drive, .int .i64 L.spread, .int .i64 L.brk, .int .i64 L.on, .int .i64 L.off, .int .i64 L.least, .int .i64 L.pieces] 36 (0, 0))).alloc (.cells #[.slice A1 l1.length c1, .slice A2 l2.length c2, .slice A3 l3.length c3, .int .i64 S] 106 (0, 0))).cell? ⟨w.heap.size, 3, none⟩ = some (.int .i64 L.brk) := by simp [go_sem]
  have Hall := Lib.hid (all_ints (.func 98) #[] #[.pointer (some ⟨w.heap.size, 0, none⟩)] (fun n => decide (L.brk ≤ n)) _ l3 _ hr (fun k x w' _ hb' => ⟨98, _, by kernel_rfl, rest1_any w' w.heap.size x L.brk (cell_below hb' c3')⟩))
  have Hb := Lib.hid hb
  clear hw hb hr c3'
  go_enter Try.func89, Try.ntmps89
  go_wp2_with (go_at_call 40; refine Hall.out.mono ?_; rintro e w1 ⟨rfl, hb1⟩)
  go_ret
  exact ⟨rfl, Hb.out.trans (hb1.mono Hb.out.size)⟩
end
def qsL : List Nat := [86, 87, 88, 89, 90]
def GivesQs (w : World) (e : Ending) (w' : World) : Prop := ∃ A, e = .returned (.slice A 5 5) ∧ FnsAt w' (.slice A 5 5) qsL ∧ Below w.heap.size w w'
set_option maxRecDepth 100000 in
theorem questions_any (w : World) : Calls Try.prog 69 #[] w (GivesQs w) := by
  go_enter Try.func69, Try.ntmps69
  go_wp2
  go_ret
  refine ⟨_, rfl, ⟨_, 5, rfl, by simp [qsL], by simp [maxLen], fun _ => ⟨_, 0, rfl, fun k r hr => ?_⟩⟩, (Below.refl _ _).alloc (Nat.le_refl _) _⟩
  match k, hr with
  | 0, hr => simp [qsL] at hr; subst hr; simp [go_sem]
  | 1, hr => simp [qsL] at hr; subst hr; simp [go_sem]
  | 2, hr => simp [qsL] at hr; subst hr; simp [go_sem]
  | 3, hr => simp [qsL] at hr; subst hr; simp [go_sem]
  | 4, hr => simp [qsL] at hr; subst hr; simp [go_sem]
  | k + 5, hr => simp [qsL] at hr
/-- Does the law hold for work? -/
def pQ (L : DLaw) (S : Int) (l1 l3 : List Int) (x : Nat) : Bool :=
  if x = 86 then decide ((l1.length : Int) ≤ L.pieces) else if x = 87 then l1.all (fun n => decide (n ≤ L.piece)) else if x = 88 then decide (sumD l1 ≤ L.drive)
  else if x = 89 then l3.all (fun n => decide (L.brk ≤ n)) else decide (S ≤ L.spread)
theorem short_all (a : Int) (l : List Int) (M : Int) : decide (maxK a l ≤ M) = (a :: l).all (fun n => decide (n ≤ M)) := by
  rw [Bool.eq_iff_iff, decide_eq_true_eq, List.all_eq_true, maxK_le]
  simp
theorem question_val (L : DLaw) (v1 v2 v3 : Value) (S : Int) (l1 l2 l3 : List Int) (w : World) (hw : WorkAt w v1 v2 v3 l1 l2 l3) (hok : SumDOk l1) (hne : l1 ≠ []) (x : Nat) (hx : x ∈ qsL) :
    CallsVal Try.prog (.func (.func x) #[] #[]) #[.agg #[.int .i64 L.piece, .int .i64 L.drive, .int .i64 L.spread, .int .i64 L.brk, .int .i64 L.on, .int .i64 L.off, .int .i64 L.least, .int .i64 L.pieces], .agg #[v1, v2, v3, .int .i64 S]] w (Gives w (.bool (pQ L S l1 l3 x))) := by
  simp only [qsL, List.mem_cons, List.not_mem_nil, or_false] at hx
  rcases hx with rfl | rfl | rfl | rfl | rfl
  · exact ⟨_, _, by kernel_rfl, many_any L v1 v2 v3 S l1 l2 l3 w hw⟩
  · cases l1 with
    | nil => exact absurd rfl hne
    | cons a l =>
      have h := short_any L v1 v2 v3 S l2 l3 w a l hw
      rw [short_all] at h
      exact ⟨_, _, by kernel_rfl, h⟩
  · exact ⟨_, _, by kernel_rfl, little_any L v1 v2 v3 S l1 l2 l3 w hw hok⟩
  · exact ⟨_, _, by kernel_rfl, rested_any L v1 v2 v3 S l1 l2 l3 w hw⟩
  · exact ⟨_, _, by kernel_rfl, near_any L v1 v2 v3 S l1 l2 l3 w hw⟩
end Go.Proofs.Ytllobkhdeahgpaa
namespace Go.Proofs.Ytllobkhdeahgpaa
open Go Go.Proofs Go.RowKit

set_option maxRecDepth 100000 in
theorem legal1_any (Q1 Q2 : Nat) (L : DLaw) (v1 v2 v3 : Value) (S : Int) (l1 l2 l3 : List Int) (w : World) (hw : WorkAt w v1 v2 v3 l1 l2 l3) (hok : SumDOk l1) (hne : l1 ≠ []) (x : Nat) (hx : x ∈ qsL)
    (h1 : w.heap[Q1]? = some (.cells #[.int .i64 L.piece, .int .i64 L.drive, .int .i64 L.spread, .int .i64 L.brk, .int .i64 L.on, .int .i64 L.off, .int .i64 L.least, .int .i64 L.pieces] 36 (0, 0))) (h2 : w.heap[Q2]? = some (.cells #[v1, v2, v3, .int .i64 S] 106 (0, 0))) :
    Calls Try.prog 70 #[.agg #[.func (.func x) #[] #[]], .pointer (some ⟨Q1, 0, none⟩), .pointer (some ⟨Q2, 0, none⟩)] w (Gives w (.bool (pQ L S l1 l3 x))) := by
  obtain ⟨A1, c1, rfl, _, _⟩ := hw.p.form
  obtain ⟨A2, c2, rfl, _, _⟩ := hw.b.form
  obtain ⟨A3, c3, rfl, _, _⟩ := hw.r.form
  have g := box_cells h1
  have k := box_cells h2
  have g0 := g 0
  have g1 := g 1
  have g2 := g 2
  have g3 := g 3
  have g4 := g 4
  have g5 := g 5
  have g6 := g 6
  have g7 := g 7
  have k0 := k 0
  have k1 := k 1
  have k2 := k 2
  have k3 := k 3
  simp only [List.getElem?_toArray, List.getElem?_cons_zero, List.getElem?_cons_succ] at g0 g1 g2 g3 g4 g5 g6 g7 k0 k1 k2 k3
  have q1 := (Array.getElem?_eq_some_iff.1 h1).1
  have q2 := (Array.getElem?_eq_some_iff.1 h2).1
  have hb0 : Below w.heap.size w (w.alloc (.cells #[.func (.func x) #[] #[]] 130)) := (Below.refl _ _).alloc (Nat.le_refl _) _
  have Hc := Lib.hid (question_val L _ _ _ S l1 l2 l3 _ (hw.below hb0) hok hne x hx)
  clear g k h1 h2 hw hok hne hx
  go_enter Try.func70, Try.ntmps70
  go_wp2_with (refine wpList_callv (.tmp 6) [.tmp 7, .tmp 8] #[36, 106] rfl rfl (.func (.func x) #[] #[]) rfl [.agg #[.int .i64 L.piece, .int .i64 L.drive, .int .i64 L.spread, .int .i64 L.brk, .int .i64 L.on, .int .i64 L.off, .int .i64 L.least, .int .i64 L.pieces], .agg #[.slice A1 l1.length c1, .slice A2 l2.length c2, .slice A3 l3.length c3, .int .i64 S]] rfl (.bool (pQ L S l1 l3 x)) Hc.out ?_; intro w2 hb2)
  go_ret
  exact ⟨rfl, hb0.trans (hb2.mono hb0.size)⟩
theorem qs_all (L : DLaw) (S : Int) (l1 l3 : List Int) : qsL.all (pQ L S l1 l3) = (decide ((l1.length : Int) ≤ L.pieces) && (l1.all (fun n => decide (n ≤ L.piece)) && (decide (sumD l1 ≤ L.drive) && (l3.all (fun n => decide (L.brk ≤ n)) && decide (S ≤ L.spread))))) := by
  simp [qsL, pQ]
set_option maxRecDepth 100000 in
theorem legalW_any (L : DLaw) (v1 v2 v3 : Value) (S : Int) (l1 l2 l3 : List Int) (w : World) (hw : WorkAt w v1 v2 v3 l1 l2 l3) (hok : SumDOk l1) (hne : l1 ≠ []) :
    Calls Try.prog 53 #[.agg #[.int .i64 L.piece, .int .i64 L.drive, .int .i64 L.spread, .int .i64 L.brk, .int .i64 L.on, .int .i64 L.off, .int .i64 L.least, .int .i64 L.pieces], .agg #[v1, v2, v3, .int .i64 S]] w (Gives w (.bool (decide ((l1.length : Int) ≤ L.pieces) && (l1.all (fun n => decide (n ≤ L.piece)) && (decide (sumD l1 ≤ L.drive) && (l3.all (fun n => decide (L.brk ≤ n)) && decide (S ≤ L.spread))))))) := by
  rw [← qs_all]
  obtain ⟨A1, c1, rfl, _, _⟩ := hw.p.form
  obtain ⟨A2, c2, rfl, _, _⟩ := hw.b.form
  obtain ⟨A3, c3, rfl, _, _⟩ := hw.r.form
  have hb := two_below w (.cells #[.int .i64 L.piece, .int .i64 L.drive, .int .i64 L.spread, .int .i64 L.brk, .int .i64 L.on, .int .i64 L.off, .int .i64 L.least, .int .i64 L.pieces] 36 (0, 0)) (.cells #[.slice A1 l1.length c1, .slice A2 l2.length c2, .slice A3 l3.length c3, .int .i64 S] 106 (0, 0))
  have Hq1 : Hid (((w.alloc (.cells #[.int .i64 L.piece, .int .i64 L.drive, .int .i64 L.spread, .int .i64 L.brk, .int .i64 L.on, .int .i64 L.off, .int .i64 L.least, .int .i64 L.pieces] 36 (0, 0))).alloc (.cells #[.slice A1 l1.length c1, .slice A2 l2.length c2, .slice A3 l3.length c3, .int .i64 S] 106 (0, 0))).heap[w.heap.size]? = some (.cells #[.int .i64 L.piece, .int .i64 L.drive, .int .i64 L.spread, .int .i64 L.brk, .int .i64 L.on, .int .i64 L.off, .int .i64 L.least, .int .i64 L.pieces] 36 (0, 0))) :=
    Lib.hid ((Below.heap_alloc _ _ _ (by simp)).trans (heap_alloc_new w _))
  have Hq2 : Hid (((w.alloc (.cells #[.int .i64 L.piece, .int .i64 L.drive, .int .i64 L.spread, .int .i64 L.brk, .int .i64 L.on, .int .i64 L.off, .int .i64 L.least, .int .i64 L.pieces] 36 (0, 0))).alloc (.cells #[.slice A1 l1.length c1, .slice A2 l2.length c2, .slice A3 l3.length c3, .int .i64 S] 106 (0, 0))).heap[w.heap.size + 1]? = some (.cells #[.slice A1 l1.length c1, .slice A2 l2.length c2, .slice A3 l3.length c3, .int .i64 S] 106 (0, 0))) :=
    Lib.hid (by have := heap_alloc_new (w.alloc (.cells #[.int .i64 L.piece, .int .i64 L.drive, .int .i64 L.spread, .int .i64 L.brk, .int .i64 L.on, .int .i64 L.off, .int .i64 L.least, .int .i64 L.pieces] 36 (0, 0))) (.cells #[.slice A1 l1.length c1, .slice A2 l2.length c2, .slice A3 l3.length c3, .int .i64 S] 106 (0, 0)); simpa using this)
  have Hw := Lib.hid (hw.below hb)
  have Hb := Lib.hid hb
  clear hw hb
  go_enter Try.func53, Try.ntmps53
  go_wp2_with fail
  refine (questions_any _).mono ?_
  rintro e w1 ⟨A, rfl, hfn, hb1⟩
  have Hall := Lib.hid (all_qs (.func 70) #[] #[.pointer (some ⟨w.heap.size, 0, none⟩), .pointer (some ⟨w.heap.size + 1, 0, none⟩)] (pQ L S l1 l3) (.slice A 5 5) qsL w1 hfn (fun k x w' hx hb' => ⟨70, _, by kernel_rfl,
    legal1_any w.heap.size (w.heap.size + 1) L _ _ _ S l1 l2 l3 w' ((Hw.out.below hb1).below hb') hok hne x (List.mem_of_getElem? hx) ((hb'.block _ (by have := hb1.size; simp at this; omega)).trans ((hb1.block _ (by simp; omega)).trans Hq1.out)) ((hb'.block _ (by have := hb1.size; simp at this; omega)).trans ((hb1.block _ (by simp)).trans Hq2.out))⟩))
  clear hfn
  go_wp2_with (go_at_call 68; refine Hall.out.mono ?_; rintro e w2 ⟨rfl, hb2⟩)
  go_ret
  exact ⟨rfl, Hb.out.trans ((hb1.trans (hb2.mono hb1.size)).mono Hb.out.size)⟩
end Go.Proofs.Ytllobkhdeahgpaa
namespace Go.Proofs.Ytllobkhdeahgpaa
open Go Go.Proofs Go.RowKit

/-! ### Is a duty legal, and what is it paid? -/
theorem obeys_eq (d : DDay) (tb te : Nat → Nat → Int) (ps : List Pc) : obeysB d tb te ps = (decide (((ps.map (durP tb te)).length : Int) ≤ d.law.pieces) && ((ps.map (durP tb te)).all (fun n => decide (n ≤ d.law.piece)) && (decide (sumD (ps.map (durP tb te)) ≤ d.law.drive) && ((restsP d tb te ps).all (fun n => decide (d.law.brk ≤ n)) && decide (spreadP d tb te ps ≤ d.law.spread))))) := by
  unfold obeysB driveP
  rw [List.length_map, List.all_map]
  rfl
theorem durs_ok {d : DDay} {tb te : Nat → Nat → Int} {ps : List Pc} (hps : ∀ p ∈ ps, InDay d p.b p.fr ∧ InDay d p.b p.to) (hl : ps.length ≤ 1000) (hbd : ∀ b i, InDay d b i → (0 ≤ tb b i ∧ tb b i ≤ 3000) ∧ (0 ≤ te b i ∧ te b i ≤ 3000)) : SumDOk (ps.map (durP tb te)) :=
  sumDOk_of (by simpa using hl) fun x hx => by
    obtain ⟨p, hp, rfl⟩ := List.mem_map.1 hx
    have h1 := (hbd _ _ (hps p hp).1).1
    have h2 := (hbd _ _ (hps p hp).2).2
    unfold durP
    omega
/-- What pieces of a set of segments are like. -/
structure SetOk (d : DDay) (x : Nat) (ps : List Pc) : Prop where
  day : ∀ p ∈ ps, InDay d p.b p.fr ∧ InDay d p.b p.to
  len : ps.length ≤ 10
  ne : ps ≠ []
theorem set_ok {d : DDay} (hd : DayOk d) {x : Nat} (hx : x < 2 ^ segN d.blocks) (h0 : x ≠ 0) : SetOk d x (piecesL d (bitsL (segN d.blocks) x)) := by
  have h4 : (piecesL d (bitsL (segN d.blocks) x)).length = _ := (srtP_perm d.blocks (rawP (segs d.blocks) (bitsL (segN d.blocks) x))).length_eq
  have hok := raw_ok (bl := d.blocks) _ (bitsL_asc (segN d.blocks) x) (fun n hn => (mem_bitsL.1 hn).1)
  refine ⟨fun p hp => ?_, ?_, fun e => ?_⟩
  · obtain ⟨k1, k2, k3, k4⟩ := hok.ok p ((srtP_perm _ _).mem_iff.1 hp)
    exact ⟨⟨k1, by omega⟩, k1, k3⟩
  · have h1 := rawP_le (segs d.blocks) (bitsL (segN d.blocks) x)
    have h2 := bitsL_len (segN d.blocks) x
    have h3 := hd.segs
    omega
  · have hb : bitsL (segN d.blocks) x ≠ [] := fun e => by
      have := mask_bitsL hx
      rw [e] at this
      exact h0 this.symm
    rw [e] at h4
    exact hok.nonempty hb (List.eq_nil_of_length_eq_zero (by simpa using h4.symm))
theorem bd_worst {d : DDay} (hd : DayOk d) : ∀ b i, InDay d b i → (0 ≤ loT d.blocks b i ∧ loT d.blocks b i ≤ 3000) ∧ (0 ≤ hiT d.blocks b i ∧ hiT d.blocks b i ≤ 3000) := fun b i _ => by
  have := rel_any hd b i
  omega
set_option maxRecDepth 100000 in
set_option maxHeartbeats 1600000 in
theorem legal_any (P x : Nat) (d : DDay) (w : World) (hd : DayOk d) (hp : PlanAt w P d) (hx : x < 2 ^ segN d.blocks) (h0 : x ≠ 0) :
    Calls Try.prog 44 #[.pointer (some ⟨P, 0, none⟩), .int .u16 (x : Int)] w (Gives w (.bool (legalX d x))) := by
  have hso := set_ok hd hx h0
  have hle : legalX d x = obeysB d (loT d.blocks) (hiT d.blocks) (piecesL d (bitsL (segN d.blocks) x)) := rfl
  rw [obeys_eq] at hle
  have Hle := Lib.hid hle
  obtain ⟨_, _, _, _, _, _, ⟨p0, p1, p2, p3, p4, p5, p6, p7⟩, _⟩ := hp.cells
  have Hp := Lib.hid hp
  have Hd := Lib.hid hd
  have Hx := Lib.hid hx
  have Hso := Lib.hid hso
  clear hle hp hd hx hso
  go_enter Try.func44, Try.ntmps44
  go_wp2_with fail
  refine wp_region_noPanic ?_
  refine wp_region_pick [0, 1, 2, 3, 4, 5, 6, 7] [8, 9, 10, 11] (fun _ => true) (fun w' => Below w.heap.size w w') (by kernel_rfl) (by kernel_rfl) (fun _ _ _ _ _ h => h) (Below.refl _ _).drew (fun hne => ?_)
  have n0 := fun x : Meets (fun w' => Below w.heap.size w w') => cell_below x.property p0
  have n1 := fun x : Meets (fun w' => Below w.heap.size w w') => cell_below x.property p1
  have n2 := fun x : Meets (fun w' => Below w.heap.size w w') => cell_below x.property p2
  have n3 := fun x : Meets (fun w' => Below w.heap.size w w') => cell_below x.property p3
  have n4 := fun x : Meets (fun w' => Below w.heap.size w w') => cell_below x.property p4
  have n5 := fun x : Meets (fun w' => Below w.heap.size w w') => cell_below x.property p5
  have n6 := fun x : Meets (fun w' => Below w.heap.size w w') => cell_below x.property p6
  have n7 := fun x : Meets (fun w' => Below w.heap.size w w') => cell_below x.property p7
  simp only [pick, pickN, List.filterMap_cons, List.filterMap_nil, List.getElem?_cons_zero, List.getElem?_cons_succ, Option.map_some]
  repeat (change wpQuiet _ _ _ _ (_ :: _) _; go_big_quiet_step (fail))
  refine wpQuiet_nil ?_
  clear n0 n1 n2 n3 n4 n5 n6 n7 hne
  refine wpSeqP_step (fun K hK => ?_)
  go_simp
  refine (worst_any P d _ (Hp.out.below (Below.refl _ _).drew)).mono ?_
  rintro e W1 ⟨fu, fv, au, av, cu, cv, rfl, hu, hv, hb1⟩
  have hw1 : Below w.heap.size w W1 := (Below.refl w.heap.size w).drew.trans hb1
  refine hK.out _ _ (fun _ => hw1) ?_
  clear hK K
  refine wpSeqP_step (fun K hK => ?_)
  go_simp
  refine (do_any P x d (loT d.blocks) (hiT d.blocks) fu fv au av cu cv _ Hd.out (Hp.out.below hw1) Hx.out h0 hu hv (bd_worst Hd.out)).mono ?_
  rintro e W2 ⟨A1, A2, A3, c1, c2, c3, rfl, n1, n2, n3, hb2⟩
  have hw2 : Below w.heap.size w W2 := hw1.trans (hb2.mono hw1.size)
  refine hK.out _ _ (fun _ => hw2) ?_
  clear hK K hu hv
  refine wpSeqP_step (fun K hK => ?_)
  go_simp
  refine (legalW_any d.law _ _ _ (spreadP d (loT d.blocks) (hiT d.blocks) (piecesL d (bitsL (segN d.blocks) x))) _ _ _ _ ⟨n1, n2, n3⟩ (durs_ok Hso.out.day (by have := Hso.out.len; omega) (bd_worst Hd.out)) (by have := Hso.out.ne; simpa using this)).mono ?_
  rintro e W3 ⟨rfl, hb3⟩
  have hw3 : Below w.heap.size w W3 := hw2.trans (hb3.mono hw2.size)
  rw [← Hle.out]
  refine hK.out _ _ (fun _ => hw3) ?_
  clear hK K
  refine wpSeqP_step (fun K hK => ?_)
  go_simp
  refine hK.out _ _ (fun _ => hw3) ?_
  clear hK K
  refine wpSeqP_nil ?_
  refine NoPanic.normal ?_
  go_wp2
  go_ret
  exact ⟨rfl, hw3⟩
set_option maxRecDepth 100000 in
set_option maxHeartbeats 1600000 in
theorem pay_any (P x : Nat) (d : DDay) (w : World) (hd : DayOk d) (hp : PlanAt w P d) (hx : x < 2 ^ segN d.blocks) (h0 : x ≠ 0) :
    Calls Try.prog 47 #[.pointer (some ⟨P, 0, none⟩), .int .u16 (x : Int)] w (Gives w (.int .i64 (payX d x))) := by
  have hle : payX d x = maxK (spreadP d (loT d.blocks) (hiT d.blocks) (piecesL d (bitsL (segN d.blocks) x))) [d.law.least] := rfl
  have Hle := Lib.hid hle
  obtain ⟨_, _, _, _, _, _, ⟨p0, p1, p2, p3, p4, p5, p6, p7⟩, _⟩ := hp.cells
  have Hp := Lib.hid hp
  have Hd := Lib.hid hd
  have Hx := Lib.hid hx
  clear hle hp hd hx
  go_enter Try.func47, Try.ntmps47
  go_wp2_with fail
  refine wp_region_noPanic ?_
  refine wp_region_pick [0, 1, 2, 6, 7, 8, 9, 10, 11] [3, 4, 5, 12, 13, 14] (fun _ => true) (fun w' => Below w.heap.size w w') (by kernel_rfl) (by kernel_rfl) (fun _ _ _ _ _ h => h) (Below.refl _ _).drew (fun hne => ?_)
  have n0 := fun x : Meets (fun w' => Below w.heap.size w w') => cell_below x.property p6
  simp only [pick, pickN, List.filterMap_cons, List.filterMap_nil, List.getElem?_cons_zero, List.getElem?_cons_succ, Option.map_some]
  repeat (change wpQuiet _ _ _ _ (_ :: _) _; go_big_quiet_step (fail))
  refine wpQuiet_nil ?_
  clear n0 hne
  refine wpSeqP_step (fun K hK => ?_)
  go_simp
  refine (worst_any P d _ (Hp.out.below (Below.refl _ _).drew)).mono ?_
  rintro e W1 ⟨fu, fv, au, av, cu, cv, rfl, hu, hv, hb1⟩
  have hw1 : Below w.heap.size w W1 := (Below.refl w.heap.size w).drew.trans hb1
  refine hK.out _ _ (fun _ => hw1) ?_
  clear hK K
  refine wpSeqP_step (fun K hK => ?_)
  go_simp
  refine (do_any P x d (loT d.blocks) (hiT d.blocks) fu fv au av cu cv _ Hd.out (Hp.out.below hw1) Hx.out h0 hu hv (bd_worst Hd.out)).mono ?_
  rintro e W2 ⟨A1, A2, A3, c1, c2, c3, rfl, n1, n2, n3, hb2⟩
  have hw2 : Below w.heap.size w W2 := hw1.trans (hb2.mono hw1.size)
  refine hK.out _ _ (fun _ => hw2) ?_
  clear hK K hu hv n1 n2 n3
  generalize spreadP d (loT d.blocks) (hiT d.blocks) (piecesL d (bitsL (segN d.blocks) x)) = S at *
  refine wpSeqP_step (fun K hK => ?_)
  go_simp
  refine hK.out _ _ (fun _ => hw2) ?_
  clear hK K
  have hb3 : Below W2.heap.size W2 (W2.alloc (.cells #[.int .i64 S, .int .i64 d.law.least] 3)) := (Below.refl _ _).alloc (Nat.le_refl _) _
  have hw3 : Below w.heap.size w (W2.alloc (.cells #[.int .i64 S, .int .i64 d.law.least] 3)) := hw2.trans (hb3.mono hw2.size)
  refine wpSeqP_step (fun K hK => ?_)
  go_simp
  refine hK.out _ _ (fun _ => hw3) ?_
  clear hK K
  refine wpSeqP_step (fun K hK => ?_)
  go_simp
  refine (greatest_same _ S [d.law.least] _ (nums_pair (by simp [go_sem]) (by simp [go_sem]))).mono ?_
  rintro e W4 ⟨rfl, rfl⟩
  rw [← Hle.out]
  refine hK.out _ _ (fun _ => hw3) ?_
  clear hK K
  refine wpSeqP_step (fun K hK => ?_)
  go_simp
  refine hK.out _ _ (fun _ => hw3) ?_
  clear hK K
  refine wpSeqP_nil ?_
  refine NoPanic.normal ?_
  go_wp2
  go_ret
  exact ⟨rfl, hw3⟩
end Go.Proofs.Ytllobkhdeahgpaa
namespace Go.Proofs.Ytllobkhdeahgpaa
open Go Go.Proofs Go.RowKit

/-! ### A duty that is asked for -/
structure DutyI (n : Nat) (l : List Int) : Prop where
  ne : l ≠ []
  rng : ∀ (i : Nat) (x : Int), l[i]? = some x → 0 ≤ x ∧ x < n
  rise : ∀ (i : Nat) (x y : Int), l[i]? = some x → l[i + 1]? = some y → x < y
def natsOf (l : List Int) : List Nat := l.map Int.toNat
theorem natsOf_natsI (l : List Nat) : natsOf (natsI l) = l := by
  unfold natsOf natsI
  rw [List.map_map]
  conv => rhs; rw [← List.map_id l]
  exact List.map_congr_left fun x _ => rfl
theorem pairwise_of_next : ∀ (l : List Nat), (∀ (i x y : Nat), l[i]? = some x → l[i + 1]? = some y → x < y) → l.Pairwise (· < ·)
  | [], _ => List.Pairwise.nil
  | [a], _ => by simp
  | a :: b :: t, h => by
    have ih := pairwise_of_next (b :: t) fun i x y hx hy => h (i + 1) x y (by simpa using hx) (by simpa using hy)
    have h0 := h 0 a b rfl rfl
    rw [List.pairwise_cons]
    refine ⟨fun c hc => ?_, ih⟩
    rcases List.mem_cons.1 hc with rfl | hc
    · exact h0
    · have := (List.pairwise_cons.1 ih).1 c hc
      omega
theorem dutyI_nats {n : Nat} {l : List Int} (h : DutyI n l) : l = natsI (natsOf l) := by
  unfold natsI natsOf
  rw [List.map_map]
  conv => lhs; rw [← List.map_id l]
  refine List.map_congr_left fun x hx => ?_
  obtain ⟨i, hi, rfl⟩ := List.getElem_of_mem hx
  have := (h.rng i _ (List.getElem?_eq_getElem hi)).1
  simp only [id, Function.comp_apply]
  omega
theorem dutyI_iff {d : DDay} {l : List Int} : DutyI (segN d.blocks) l ↔ l = natsI (natsOf l) ∧ IsDuty d (natsOf l) := by
  constructor
  · intro h
    refine ⟨dutyI_nats h, pairwise_of_next _ fun i x y hx hy => ?_, fun x hx => ?_, fun e => h.ne (by simpa [natsOf] using e)⟩
    · unfold natsOf at hx hy
      rw [List.getElem?_map] at hx hy
      cases hx' : l[i]? with
      | none => rw [hx'] at hx; cases hx
      | some a =>
        cases hy' : l[i + 1]? with
        | none => rw [hy'] at hy; cases hy
        | some b =>
          rw [hx'] at hx
          rw [hy'] at hy
          simp only [Option.map_some, Option.some.injEq] at hx hy
          have h1 := h.rise i a b hx' hy'
          have h2 := (h.rng i a hx').1
          omega
    · obtain ⟨a, ha, rfl⟩ := List.mem_map.1 hx
      obtain ⟨i, hi, rfl⟩ := List.getElem_of_mem ha
      have := h.rng i _ (List.getElem?_eq_getElem hi)
      omega
  · rintro ⟨e, h⟩
    rw [e]
    refine ⟨fun e2 => h.some (by simpa [natsI] using e2), fun i x hx => ?_, fun i x y hx hy => ?_⟩
    · unfold natsI at hx
      rw [List.getElem?_map] at hx
      cases hx' : (natsOf l)[i]? with
      | none => rw [hx'] at hx; cases hx
      | some a =>
        rw [hx'] at hx
        simp only [Option.map_some, Option.some.injEq] at hx
        have := h.lt a (List.mem_of_getElem? hx')
        omega
    · unfold natsI at hx hy
      rw [List.getElem?_map] at hx hy
      cases hx' : (natsOf l)[i]? with
      | none => rw [hx'] at hx; cases hx
      | some a =>
        cases hy' : (natsOf l)[i + 1]? with
        | none => rw [hy'] at hy; cases hy
        | some b =>
          rw [hx'] at hx
          rw [hy'] at hy
          simp only [Option.map_some, Option.some.injEq] at hx hy
          obtain ⟨hi, e1⟩ := List.getElem?_eq_some_iff.1 hx'
          obtain ⟨hj, e2⟩ := List.getElem?_eq_some_iff.1 hy'
          have := List.pairwise_iff_getElem.1 h.rise i (i + 1) hi hj (by omega)
          omega
/-- The first k numbers are as those of a duty. -/
def OkTo (n : Nat) (l : List Int) (k : Nat) : Prop := (∀ (i : Nat) (x : Int), i < k → l[i]? = some x → 0 ≤ x ∧ x < n) ∧ ∀ (i : Nat) (x y : Int), i + 1 < k → l[i]? = some x → l[i + 1]? = some y → x < y
theorem okTo_all {n : Nat} {l : List Int} (h : OkTo n l l.length) (h0 : l ≠ []) : DutyI n l :=
  ⟨h0, fun i x hx => h.1 i x (List.getElem?_eq_some_iff.1 hx).1 hx, fun i x y hx hy => h.2 i x y (List.getElem?_eq_some_iff.1 hy).1 hx hy⟩
theorem okTo_first {n : Nat} {l : List Int} {x : Int} (hx : l[0]? = some x) (h1 : 0 ≤ x ∧ x < n) : OkTo n l 1 := by
  refine ⟨fun i y hi hy => ?_, fun i y z hi => by omega⟩
  obtain rfl : i = 0 := by omega
  rw [hx] at hy
  cases hy
  exact h1
theorem okTo_step {n k : Nat} {l : List Int} {x y : Int} (h : OkTo n l (k + 1)) (hx : l[k]? = some x) (hy : l[k + 1]? = some y) (h1 : 0 ≤ y ∧ y < n) (h2 : x < y) : OkTo n l (k + 1 + 1) := by
  refine ⟨fun i z hi hz => ?_, fun i z z' hi hz hz' => ?_⟩
  · by_cases e : i = k + 1
    · subst e
      rw [hy] at hz
      cases hz
      exact h1
    · exact h.1 i z (by omega) hz
  · by_cases e : i = k
    · subst e
      rw [hx] at hz
      rw [hy] at hz'
      cases hz
      cases hz'
      exact h2
    · exact h.2 i z z' (by omega) hz hz'
theorem wrap_pow {m : Nat} (hm : m ≤ 15) : IntKind.u16.wrap (2 ^ m) = ((2 ^ m : Nat) : Int) := by
  have h1 := two_pow_16 hm
  have e : ((2 : Int) ^ m) = ((2 ^ m : Nat) : Int) := by push_cast; rfl
  rw [wrap_u16, e]
  generalize (2 : Nat) ^ m = y at *
  omega
theorem or_bit {X m : Nat} (hX : X < 65536) (hm : m ≤ 15) : bits BinOp.or IntKind.u16 (X : Int) (IntKind.u16.wrap (2 ^ m)) = ((X ||| 1 <<< m : Nat) : Int) := by
  rw [wrap_pow hm, bits_or_u16 _ _ hX (two_pow_16 hm), Nat.one_shiftLeft]
def maskTo (l : List Int) (k : Nat) : Nat := maskL (natsOf (l.take k))
theorem maskTo_succ {l : List Int} {k m : Nat} (h : l[k]? = some (m : Int)) : maskTo l (k + 1) = maskTo l k ||| 1 <<< m := by
  unfold maskTo natsOf
  rw [List.take_add_one, h, List.map_append]
  exact maskL_snoc _ _
theorem maskTo_lt {n : Nat} {l : List Int} {k : Nat} (h : OkTo n l k) (hn : n ≤ 15) : maskTo l k < 65536 := by
  refine Nat.lt_of_lt_of_le (mask_lt (n := n) fun i hi => ?_) (Nat.pow_le_pow_right (n := 2) (by omega) (by omega : n ≤ 16))
  obtain ⟨x, hx, rfl⟩ := List.mem_map.1 hi
  obtain ⟨j, hj, rfl⟩ := List.getElem_of_mem hx
  have hj' : j < k ∧ j < l.length := by
    have h : j < min k l.length := by simpa using hj
    omega
  have hjl : j < l.length := hj'.2
  have h1 : l[j]? = some l[j] := List.getElem?_eq_getElem hjl
  have := h.1 j _ hj'.1 h1
  rw [List.getElem_take]
  omega
def GivesAsked (d : DDay) (l : List Int) (w : World) (e : Ending) (w' : World) : Prop :=
  (DutyI (segN d.blocks) l → ∃ P, e = .returned (.tuple #[.pointer (some ⟨P, 0, none⟩), .int .u16 (maskL (natsOf l) : Int), .int .i64 0]) ∧ PlanAt w' P d ∧ Below w.heap.size w w') ∧
  (¬ DutyI (segN d.blocks) l → e = .returned (.tuple #[.pointer none, .int .u16 0, .int .i64 2]) ∧ Below w.heap.size w w')
theorem segN_take_all : ∀ (bl : List (List Rel)) (k : Nat), segN (bl.take k) ≤ segN bl
  | [], k => by simp [segN]
  | l :: t, 0 => by simp [segN]
  | l :: t, k + 1 => by
    have := segN_take_all t k
    simp only [List.take_succ_cons, segN]
    omega
theorem day_mild {d : DDay} (hd : DayOk d) : Mild d := by
  have h1 := hd.blocks
  have h2 := hd.places
  have h3 := hd.segs
  refine ⟨by omega, fun b x hx => ?_, by omega, fun b x hx => by have := (hd.row b x hx).1; omega⟩
  have h4 := segN_take_succ hx
  have h5 : segN (d.blocks.take (b + 1)) ≤ segN d.blocks := by
    exact segN_take_all _ _
  omega
set_option maxRecDepth 100000 in
theorem asked_fault (d : DDay) (u z v : Value) (w : World) (hd : DayAt w u z d) (hm : Mild d) (hf : (faultD d != 0) = true) :
    Calls Try.prog 45 #[.agg #[.int .i64 d.law.piece, .int .i64 d.law.drive, .int .i64 d.law.spread, .int .i64 d.law.brk, .int .i64 d.law.on, .int .i64 d.law.off, .int .i64 d.law.least, .int .i64 d.law.pieces, u, z], v] w (Gives w (.tuple #[.pointer none, .int .u16 0, .int .i64 (faultD d)])) := by
  obtain ⟨A1, c1, rfl, _, _⟩ := hd.blocks.form
  obtain ⟨A2, c2, rfl, _, _⟩ := hd.walk.form
  have hb0 : Below w.heap.size w (w.alloc (.cells #[.int .i64 d.law.piece, .int .i64 d.law.drive, .int .i64 d.law.spread, .int .i64 d.law.brk, .int .i64 d.law.on, .int .i64 d.law.off, .int .i64 d.law.least, .int .i64 d.law.pieces, .slice A1 d.blocks.length c1, .slice A2 d.walk.length c2] 39)) := (Below.refl _ _).alloc (Nat.le_refl _) _
  have Hc := Lib.hid (CheckDay_any d _ _ _ (hd.below hb0) hm)
  clear hd
  generalize faultD d = F at *
  go_enter Try.func45, Try.ntmps45
  go_wp2_with (go_at_call 34; refine Hc.out.mono ?_; rintro e w1 ⟨rfl, hb1⟩)
  go_ret3
  exact ⟨rfl, hb0.trans (hb1.mono hb0.size)⟩
set_option maxRecDepth 100000 in
set_option maxHeartbeats 1600000 in
theorem asked_any (d : DDay) (u z v : Value) (l : List Int) (w : World) (hda : DayAt w u z d) (hd : DayOk d) (hv : NumsAt .i64 w v l) (hl : l.length ≤ 1000) :
    Calls Try.prog 45 #[.agg #[.int .i64 d.law.piece, .int .i64 d.law.drive, .int .i64 d.law.spread, .int .i64 d.law.brk, .int .i64 d.law.on, .int .i64 d.law.off, .int .i64 d.law.least, .int .i64 d.law.pieces, u, z], v] w (GivesAsked d l w) := by
  obtain ⟨A1, c1, rfl, _, _⟩ := hda.blocks.form
  obtain ⟨A2, c2, rfl, _, _⟩ := hda.walk.form
  obtain ⟨A3, c3, rfl, hc3, hm3⟩ := hv.form
  have hb0 : Below w.heap.size w (w.alloc (.cells #[.int .i64 d.law.piece, .int .i64 d.law.drive, .int .i64 d.law.spread, .int .i64 d.law.brk, .int .i64 d.law.on, .int .i64 d.law.off, .int .i64 d.law.least, .int .i64 d.law.pieces, .slice A1 d.blocks.length c1, .slice A2 d.walk.length c2] 39)) := (Below.refl _ _).alloc (Nat.le_refl _) _
  have hf : faultD d = 0 := day_ok.2 hd
  have hC := CheckDay_any d _ _ _ (hda.below hb0) (day_mild hd)
  rw [hf] at hC
  have Hc := Lib.hid hC
  have hsn := hd.segs
  have Hda := Lib.hid hda
  have Hd := Lib.hid hd
  clear hda hd hC hf
  go_enter Try.func45, Try.ntmps45
  go_wp2_with fail
  refine Hc.out.mono ?_
  rintro e w1 ⟨rfl, hb1⟩
  have hw1 := hb0.trans (hb1.mono hb0.size)
  obtain ⟨gc, gf⟩ := bcell hb1
  go_wp2_with fail
  refine (plan_any d _ _ _ (Hda.out.below hw1) (day_mild Hd.out)).mono ?_
  rintro e w2 ⟨P, rfl, hp, hP, hb2⟩
  have hw2 := hw1.trans (hb2.mono hw1.size)
  have hv2 := hv.below hw2
  obtain ⟨_, _, A4, _, _, c4, _, _, _, p10, _, _, _, _⟩ := hp.cells
  have hPl := hp.lt
  have Hp := Lib.hid hp
  clear gc gf hp
  go_wp2
  go_loop [9, 21] (fun X j => ∃ k : Nat, k ≤ l.length ∧ j = .int .i64 k ∧ X = .int .u16 (maskTo l k : Int) ∧ OkTo (segN d.blocks) l k) (fun X j => l.length - (intOf j).toNat)
  case atStart => exact ⟨0, by omega, rfl, rfl, fun i x hi => by omega, fun i x y hi => by omega⟩
  case round =>
    obtain ⟨k, hk, rfl, rfl, hok⟩ := hrel
    have hX := maskTo_lt hok (by omega)
    by_cases hlt : k < l.length
    · obtain ⟨b, o, y, rfl, hy, c0, hb⟩ := hv2.at_ hlt
      cases hin : inB y 0 ((segN d.blocks : Int) - 1) with
      | false =>
        have hno : ¬ DutyI (segN d.blocks) l := fun h => by
          have := h.rng k y hy
          rw [Bool.eq_false_iff] at hin
          exact hin (inB_iff.2 (by omega))
        have Hno := Lib.hid hno
        have Hin := Lib.hid hin
        clear hno hin hy hok
        go_wp2_with (go_at_call 42; refine (Same.to Hin.out (within_same _ _ _ _)).mono ?_; rintro e w3 ⟨rfl, rfl⟩)
        go_ret3
        exact ⟨fun h => absurd h Hno.out, fun _ => ⟨rfl, hw2⟩⟩
      | true =>
        have hrg := inB_iff.1 hin
        obtain ⟨m, rfl⟩ : ∃ m : Nat, y = (m : Int) := ⟨y.toNat, by omega⟩
        have Hm := Lib.hid (maskTo_succ hy)
        have qo := or_bit hX (by omega : m ≤ 15)
        have Hin := Lib.hid hin
        by_cases hk0 : k = 0
        · have hd0 : decide (0 < k) = false := by simpa using hk0
          have Hok := Lib.hid (okTo_first (n := segN d.blocks) (by rw [← hk0]; exact hy) (by omega))
          have Hk0 := Lib.hid hk0
          clear hin hy hok hk0
          generalize maskTo l k = X at *
          go_wp2_with (go_at_call 42; refine (Same.to Hin.out (within_same _ _ _ _)).mono ?_; rintro e w3 ⟨rfl, rfl⟩)
          go_round
          case rel => exact ⟨k + 1, by omega, by go_num, by rw [Hm.out], by rw [Hk0.out]; exact Hok.out⟩
          case measure => simp [intOf]; omega
        · obtain ⟨j, hj⟩ : ∃ j, k = j + 1 := ⟨k - 1, by omega⟩
          obtain ⟨b', o', t, e, ht, d0, _⟩ := hv2.at_ (k := j) (by omega)
          cases e
          have hd0 : decide (0 < k) = true := by simp; omega
          have q1 : IntKind.i64.wrap ((k : Int) - 1) = (j : Int) := by rw [IntWalk.i64_in _ (by omega)]; omega
          have q2 : (j : Int) < (l.length : Int) := by omega
          by_cases h2 : (m : Int) ≤ t
          · have h2' : decide ((m : Int) ≤ t) = true := by simpa using h2
            have hno : ¬ DutyI (segN d.blocks) l := fun h => by
              have := h.rise j t m ht (by rw [← hj]; exact hy)
              omega
            have Hno := Lib.hid hno
            have Hj := Lib.hid hj
            clear hno hin hy hok hk0 hj ht
            go_wp2_with (go_at_call 42; refine (Same.to Hin.out (within_same _ _ _ _)).mono ?_; rintro e w3 ⟨rfl, rfl⟩)
            go_ret3
            exact ⟨fun h => absurd h Hno.out, fun _ => ⟨rfl, hw2⟩⟩
          · have h2' : decide ((m : Int) ≤ t) = false := by simpa using h2
            have Hok := Lib.hid (okTo_step (n := segN d.blocks) (k := j) (by rw [← hj]; exact hok) ht (by rw [← hj]; exact hy) (by omega) (by omega))
            have Hj := Lib.hid hj
            clear hin hy hok hk0 hj ht h2
            generalize maskTo l k = X at *
            go_wp2_with (go_at_call 42; refine (Same.to Hin.out (within_same _ _ _ _)).mono ?_; rintro e w3 ⟨rfl, rfl⟩)
            go_round
            case rel => exact ⟨k + 1, by omega, by go_num, by rw [Hm.out], by rw [Hj.out]; exact Hok.out⟩
            case measure => simp [intOf]; omega
    · obtain rfl : k = l.length := by omega
      have Hok := Lib.hid hok
      have hme : maskTo l l.length = maskL (natsOf l) := by unfold maskTo; rw [List.take_length]
      rw [hme] at hX ⊢
      clear hok hme
      by_cases h0 : l = []
      · have hz : maskL (natsOf l) = 0 := by rw [h0]; rfl
        have hno : ¬ DutyI (segN d.blocks) l := fun h => h.ne h0
        have Hno := Lib.hid hno
        rw [hz]
        clear hno hz h0
        go_wp2
        go_ret3
        exact ⟨fun h => absurd h Hno.out, fun _ => ⟨rfl, hw2⟩⟩
      · have hD := okTo_all Hok.out h0
        have hpos := mask_pos (dutyI_iff.1 hD).2.some
        have hz : ((maskL (natsOf l) : Int) == 0) = false := by rw [Bool.eq_false_iff]; intro h; simp only [beq_iff_eq] at h; omega
        have HD := Lib.hid hD
        clear hD hpos h0
        go_wp2
        go_ret3
        exact ⟨fun _ => ⟨P, rfl, Hp.out, hw2⟩, fun h => absurd HD.out h⟩
end Go.Proofs.Ytllobkhdeahgpaa
namespace Go.Proofs.Ytllobkhdeahgpaa
open Go Go.Proofs Go.RowKit

/-! ### Legal, Pay, Barred -/
def inN (n : Nat) (x : Int) : Bool := inB x 0 ((n : Int) - 1)
def risesI : List Int → Bool
  | [] => true
  | [_] => true
  | a :: b :: t => decide (a < b) && risesI (b :: t)
theorem risesI_iff : ∀ {l : List Int}, risesI l = true ↔ ∀ (i : Nat) (x y : Int), l[i]? = some x → l[i + 1]? = some y → x < y
  | [] => by simp [risesI]
  | [a] => by simp [risesI]
  | a :: b :: t => by
    simp only [risesI, Bool.and_eq_true, decide_eq_true_eq, risesI_iff (l := b :: t)]
    constructor
    · rintro ⟨h1, h2⟩ i x y hx hy
      cases i with
      | zero =>
        simp only [List.getElem?_cons_zero, List.getElem?_cons_succ, Option.some.injEq, Nat.zero_add] at hx hy
        omega
      | succ i => exact h2 i x y (by simpa using hx) (by simpa using hy)
    · intro h
      exact ⟨h 0 a b rfl rfl, fun i x y hx hy => h (i + 1) x y (by simpa using hx) (by simpa using hy)⟩
def dutyB (n : Nat) (l : List Int) : Bool := !l.isEmpty && (l.all (inN n) && risesI l)
theorem dutyB_iff {n : Nat} {l : List Int} : dutyB n l = true ↔ DutyI n l := by
  simp only [dutyB, Bool.and_eq_true, Bool.not_eq_true', risesI_iff, List.all_eq_true]
  constructor
  · rintro ⟨h1, h2, h3⟩
    refine ⟨fun e => by rw [e] at h1; simp at h1, fun i x hx => ?_, h3⟩
    have := inB_iff.1 (h2 x (List.mem_of_getElem? hx))
    omega
  · rintro ⟨h1, h2, h3⟩
    refine ⟨?_, fun x hx => ?_, h3⟩
    · cases l with
      | nil => exact absurd rfl h1
      | cons a t => rfl
    · obtain ⟨i, hi, rfl⟩ := List.getElem_of_mem hx
      have := h2 i _ (List.getElem?_eq_getElem hi)
      exact inB_iff.2 (by omega)
theorem duty_mask {d : DDay} {l : List Int} (h : DutyI (segN d.blocks) l) : maskL (natsOf l) < 2 ^ segN d.blocks ∧ maskL (natsOf l) ≠ 0 ∧ legalX d (maskL (natsOf l)) = legalL d (natsOf l) ∧ payX d (maskL (natsOf l)) = payL d (natsOf l) := by
  obtain ⟨_, h⟩ := dutyI_iff.1 h
  have e := bitsL_mask h.rise h.lt
  refine ⟨mask_lt h.lt, mask_pos h.some, ?_, ?_⟩
  · unfold legalX; rw [e]
  · unfold payX; rw [e]
def askE (d : DDay) (l : List Int) : Int := if faultD d != 0 then faultD d else if dutyB (segN d.blocks) l then 0 else 2
def legalQ (d : DDay) (l : List Int) : Bool := askE d l == 0 && legalL d (natsOf l)
def payE (d : DDay) (l : List Int) : Int := if askE d l == 0 then (if legalL d (natsOf l) then 0 else 10) else askE d l
def payQ (d : DDay) (l : List Int) : Int := if legalQ d l then payL d (natsOf l) else 0
theorem fault_ok {d : DDay} (h : (faultD d != 0) = false) : DayOk d := day_ok.1 (by simpa using h)
set_option maxRecDepth 100000 in
set_option maxHeartbeats 1600000 in
theorem Legal_any (d : DDay) (u z v : Value) (l : List Int) (w : World) (hda : DayAt w u z d) (hm : Mild d) (hv : NumsAt .i64 w v l) (hl : l.length ≤ 1000) :
    Calls Try.prog 20 #[.agg #[.int .i64 d.law.piece, .int .i64 d.law.drive, .int .i64 d.law.spread, .int .i64 d.law.brk, .int .i64 d.law.on, .int .i64 d.law.off, .int .i64 d.law.least, .int .i64 d.law.pieces, u, z], v] w (Gives w (.tuple #[.bool (legalQ d l), .int .i64 (askE d l)])) := by
  obtain ⟨A1, c1, rfl, _, _⟩ := hda.blocks.form
  obtain ⟨A2, c2, rfl, _, _⟩ := hda.walk.form
  obtain ⟨A3, c3, rfl, hc3, hm3⟩ := hv.form
  have hb0 : Below w.heap.size w (w.alloc (.cells #[.int .i64 d.law.piece, .int .i64 d.law.drive, .int .i64 d.law.spread, .int .i64 d.law.brk, .int .i64 d.law.on, .int .i64 d.law.off, .int .i64 d.law.least, .int .i64 d.law.pieces, .slice A1 d.blocks.length c1, .slice A2 d.walk.length c2] 39)) := (Below.refl _ _).alloc (Nat.le_refl _) _
  cases hf : (faultD d != 0) with
  | true =>
    have Ha := Lib.hid (asked_fault d _ _ (.slice A3 l.length c3) _ (hda.below hb0) hm hf)
    have hE : askE d l = faultD d := by unfold askE; rw [if_pos hf]
    have hq : legalQ d l = false := by unfold legalQ; rw [hE, (by simpa using hf : (faultD d == 0) = false)]; rfl
    rw [hE, hq]
    clear hda hv hE hq
    generalize faultD d = F at *
    go_enter Try.func20, Try.ntmps20
    go_wp2_with (go_at_call 45; refine Ha.out.mono ?_; rintro e w1 ⟨rfl, hb1⟩)
    go_ret2
    exact ⟨rfl, hb0.trans (hb1.mono hb0.size)⟩
  | false =>
    have hd := fault_ok hf
    have Ha := Lib.hid (asked_any d _ _ (.slice A3 l.length c3) l _ (hda.below hb0) hd (hv.below hb0) hl)
    cases hdu : dutyB (segN d.blocks) l with
    | false =>
      have hE : askE d l = 2 := by unfold askE; rw [if_neg (by rw [hf]; simp), hdu]; rfl
      have hq : legalQ d l = false := by unfold legalQ; rw [hE]; rfl
      have Hno := Lib.hid (show ¬ DutyI (segN d.blocks) l from fun h => by rw [dutyB_iff.2 h] at hdu; cases hdu)
      rw [hE, hq]
      clear hda hv hE hq hd hf hdu
      go_enter Try.func20, Try.ntmps20
      go_wp2_with (go_at_call 45; refine Ha.out.mono ?_; rintro e w1 ⟨_, hno⟩; obtain ⟨rfl, hb1⟩ := hno Hno.out; clear hno)
      go_ret2
      exact ⟨rfl, hb0.trans (hb1.mono hb0.size)⟩
    | true =>
      have hE : askE d l = 0 := by unfold askE; rw [if_neg (by rw [hf]; simp), hdu]; rfl
      have hDI := dutyB_iff.1 hdu
      obtain ⟨k1, k2, k3, _⟩ := duty_mask hDI
      have hq : legalQ d l = legalX d (maskL (natsOf l)) := by unfold legalQ; rw [hE, k3]; rfl
      have HDI := Lib.hid hDI
      have K1 := Lib.hid k1
      have K2 := Lib.hid k2
      have Hd := Lib.hid hd
      rw [hE, hq]
      clear hda hv hE hq hd hf hdu k1 k2 k3 hDI
      go_enter Try.func20, Try.ntmps20
      go_wp2_with fail
      refine Ha.out.mono ?_
      rintro e w1 ⟨hyes, _⟩
      obtain ⟨P, rfl, hP, hb1⟩ := hyes HDI.out
      have hw1 := hb0.trans (hb1.mono hb0.size)
      have Hc := Lib.hid (legal_any P _ d _ Hd.out hP K1.out K2.out)
      clear hyes hP
      generalize maskL (natsOf l) = X at *
      go_wp2_with (go_at_call 44; refine Hc.out.mono ?_; rintro e w2 ⟨rfl, hb2⟩)
      go_ret2
      exact ⟨rfl, hw1.trans (hb2.mono hw1.size)⟩
set_option maxRecDepth 100000 in
set_option maxHeartbeats 1600000 in
theorem Pay_any (d : DDay) (u z v : Value) (l : List Int) (w : World) (hda : DayAt w u z d) (hm : Mild d) (hv : NumsAt .i64 w v l) (hl : l.length ≤ 1000) :
    Calls Try.prog 26 #[.agg #[.int .i64 d.law.piece, .int .i64 d.law.drive, .int .i64 d.law.spread, .int .i64 d.law.brk, .int .i64 d.law.on, .int .i64 d.law.off, .int .i64 d.law.least, .int .i64 d.law.pieces, u, z], v] w (Gives w (.tuple #[.int .i64 (payQ d l), .int .i64 (payE d l)])) := by
  obtain ⟨A1, c1, rfl, _, _⟩ := hda.blocks.form
  obtain ⟨A2, c2, rfl, _, _⟩ := hda.walk.form
  obtain ⟨A3, c3, rfl, hc3, hm3⟩ := hv.form
  have hb0 : Below w.heap.size w (w.alloc (.cells #[.int .i64 d.law.piece, .int .i64 d.law.drive, .int .i64 d.law.spread, .int .i64 d.law.brk, .int .i64 d.law.on, .int .i64 d.law.off, .int .i64 d.law.least, .int .i64 d.law.pieces, .slice A1 d.blocks.length c1, .slice A2 d.walk.length c2] 39)) := (Below.refl _ _).alloc (Nat.le_refl _) _
  cases hf : (faultD d != 0) with
  | true =>
    have Ha := Lib.hid (asked_fault d _ _ (.slice A3 l.length c3) _ (hda.below hb0) hm hf)
    have hE : askE d l = faultD d := by unfold askE; rw [if_pos hf]
    have h0 : (askE d l == 0) = false := by rw [hE]; simpa using hf
    have hq : payQ d l = 0 := by unfold payQ legalQ; rw [h0]; rfl
    have hp : payE d l = faultD d := by unfold payE; rw [h0, hE]; rfl
    rw [hq, hp]
    clear hda hv hE hq hp h0
    generalize faultD d = F at *
    go_enter Try.func26, Try.ntmps26
    go_wp2_with (go_at_call 45; refine Ha.out.mono ?_; rintro e w1 ⟨rfl, hb1⟩)
    go_ret2
    exact ⟨rfl, hb0.trans (hb1.mono hb0.size)⟩
  | false =>
    have hd := fault_ok hf
    have Ha := Lib.hid (asked_any d _ _ (.slice A3 l.length c3) l _ (hda.below hb0) hd (hv.below hb0) hl)
    cases hdu : dutyB (segN d.blocks) l with
    | false =>
      have hE : askE d l = 2 := by unfold askE; rw [if_neg (by rw [hf]; simp), hdu]; rfl
      have hq : payQ d l = 0 := by unfold payQ legalQ; rw [hE]; rfl
      have hp : payE d l = 2 := by unfold payE; rw [hE]; rfl
      have Hno := Lib.hid (show ¬ DutyI (segN d.blocks) l from fun h => by rw [dutyB_iff.2 h] at hdu; cases hdu)
      rw [hq, hp]
      clear hda hv hE hq hd hf hdu hp
      go_enter Try.func26, Try.ntmps26
      go_wp2_with (go_at_call 45; refine Ha.out.mono ?_; rintro e w1 ⟨_, hno⟩; obtain ⟨rfl, hb1⟩ := hno Hno.out; clear hno)
      go_ret2
      exact ⟨rfl, hb0.trans (hb1.mono hb0.size)⟩
    | true =>
      have hE : askE d l = 0 := by unfold askE; rw [if_neg (by rw [hf]; simp), hdu]; rfl
      have hDI := dutyB_iff.1 hdu
      obtain ⟨k1, k2, k3, k4⟩ := duty_mask hDI
      have hq : payQ d l = if legalX d (maskL (natsOf l)) then payX d (maskL (natsOf l)) else 0 := by unfold payQ legalQ; rw [hE, k3, k4]; rfl
      have hp : payE d l = if legalX d (maskL (natsOf l)) then 0 else 10 := by unfold payE; rw [hE, k3]; rfl
      have HDI := Lib.hid hDI
      have K1 := Lib.hid k1
      have K2 := Lib.hid k2
      have Hd := Lib.hid hd
      rw [hq, hp]
      clear hda hv hE hq hd hf hdu k1 k2 k3 k4 hDI hp
      go_enter Try.func26, Try.ntmps26
      have HL := Lib.hid (fun (P : Nat) (w : World) (hP : PlanAt w P d) => legal_any P _ d w Hd.out hP K1.out K2.out)
      have HY := Lib.hid (fun (P : Nat) (w : World) (hP : PlanAt w P d) => pay_any P _ d w Hd.out hP K1.out K2.out)
      generalize payX d (maskL (natsOf l)) = Y at *
      cases hlx : legalX d (maskL (natsOf l)) with
      | true =>
        rw [hlx] at HL
        simp only [if_true]
        clear hlx
        go_wp2_with fail
        refine Ha.out.mono ?_
        rintro e w1 ⟨hyes, _⟩
        obtain ⟨P, rfl, hP, hb1⟩ := hyes HDI.out
        have hw1 := hb0.trans (hb1.mono hb0.size)
        have Hc := Lib.hid (HL.out P _ hP)
        have HP := Lib.hid hP
        clear hyes hP HL Ha HDI
        go_wp2_with (first
          | (go_at_call 44; go_loud (refine Hc.out.mono ?_; rintro e w2 ⟨rfl, hb2⟩; have Hp := Lib.hid (HY.out P _ (HP.out.below hb2))))
          | (go_at_call 47; go_loud (refine Hp.out.mono ?_; rintro e w3 ⟨rfl, hb3⟩)))
        go_ret2
        have hw2 := hw1.trans (hb2.mono hw1.size)
        exact ⟨rfl, hw2.trans (hb3.mono hw2.size)⟩
      | false =>
        rw [hlx] at HL
        simp only [Bool.false_eq_true, if_false]
        clear hlx
        go_wp2_with fail
        refine Ha.out.mono ?_
        rintro e w1 ⟨hyes, _⟩
        obtain ⟨P, rfl, hP, hb1⟩ := hyes HDI.out
        have hw1 := hb0.trans (hb1.mono hb0.size)
        have Hc := Lib.hid (HL.out P _ hP)
        clear hyes hP HL HY Ha HDI
        go_wp2_with (go_at_call 44; go_loud (refine Hc.out.mono ?_; rintro e w2 ⟨rfl, hb2⟩))
        go_ret2
        exact ⟨rfl, hw1.trans (hb2.mono hw1.size)⟩
end Go.Proofs.Ytllobkhdeahgpaa
