import Derived.Test.YtmbkpfkkohpnkaaGreatWb
import Derived.Shelf.SlSortCmp.WholeK
import Derived.Ground.SlsfProg
set_option linter.unusedVariables false
set_option linter.unusedSimpArgs false
namespace Go.Proofs.YtmbkpfkkohpnkaaGreat
open Go Go.Proofs Go.RowKit

section
open Go.Shelf
def Tryz.sortRd_ren : Go.Shelf.Ren := ⟨fun | 6 => 71 | 15 => 88 | 14 => 87 | 28 => 101 | 29 => 102 | 20 => 93 | 21 => 94 | 22 => 95 | 23 => 96 | 24 => 97 | 25 => 98 | 26 => 99 | 27 => 100 | 46 => 104 | 47 => 105 | 48 => 106 | 49 => 107 | 50 => 108 | 57 => 109 | n => n, fun | 22 => 36 | 24 => 68 | 25 => 126 | 3 => 3 | 39 => 137 | 0 => 0 | 53 => 148 | 55 => 150 | 4 => 4 | 46 => 141 | 45 => 140 | 50 => 145 | 5 => 5 | 9 => 9 | 66 => 152 | 70 => 156 | 76 => 158 | 77 => 159 | n => n, fun | n => n⟩
theorem Tryz.sortRd : Go.Proofs.SlLaysF0.n6 Tryz.prog Tryz.sortRd_ren := {
  mixed := by kernel_rfl,
  f6 := ⟨Tryz.f71.name, by decide, Tryz.func71.trans (congrArg some (by kernel_rfl))⟩,
  f14 := ⟨Tryz.f87.name, by decide, Tryz.func87.trans (congrArg some (by kernel_rfl))⟩,
  f15 := Tryz.func88.trans (congrArg some (by kernel_rfl)),
  f20 := ⟨Tryz.f93.name, by decide, Tryz.func93.trans (congrArg some (by kernel_rfl))⟩,
  f21 := ⟨Tryz.f94.name, by decide, Tryz.func94.trans (congrArg some (by kernel_rfl))⟩,
  f22 := ⟨Tryz.f95.name, by decide, Tryz.func95.trans (congrArg some (by kernel_rfl))⟩,
  f23 := ⟨Tryz.f96.name, by decide, Tryz.func96.trans (congrArg some (by kernel_rfl))⟩,
  f24 := ⟨Tryz.f97.name, by decide, Tryz.func97.trans (congrArg some (by kernel_rfl))⟩,
  f25 := ⟨Tryz.f98.name, by decide, Tryz.func98.trans (congrArg some (by kernel_rfl))⟩,
  f26 := ⟨Tryz.f99.name, by decide, Tryz.func99.trans (congrArg some (by kernel_rfl))⟩,
  f27 := ⟨Tryz.f100.name, by decide, Tryz.func100.trans (congrArg some (by kernel_rfl))⟩,
  f28 := Tryz.func101.trans (congrArg some (by kernel_rfl)),
  f29 := Tryz.func102.trans (congrArg some (by kernel_rfl)),
  f46 := ⟨Tryz.f104.name, by decide, Tryz.func104.trans (congrArg some (by kernel_rfl))⟩,
  f47 := Tryz.func105.trans (congrArg some (by kernel_rfl)),
  f48 := Tryz.func106.trans (congrArg some (by kernel_rfl)),
  f49 := ⟨Tryz.f107.name, by decide, Tryz.func107.trans (congrArg some (by kernel_rfl))⟩,
  f50 := ⟨Tryz.f108.name, by decide, Tryz.func108.trans (congrArg some (by kernel_rfl))⟩,
  f57 := ⟨Tryz.f109.name, by decide, Tryz.func109.trans (congrArg some (by kernel_rfl))⟩,
  t0 := Tryz.underlying0,
  a0 := Tryz.isAgg0,
  z0 := Tryz.sizeOf0,
  v0 := Tryz.zeroValue0,
  t3 := Tryz.underlying3,
  a3 := Tryz.isAgg3,
  z3 := Tryz.sizeOf3,
  v3 := Tryz.zeroValue3,
  t4 := Tryz.underlying4,
  a4 := Tryz.isAgg4,
  z4 := Tryz.sizeOf4,
  v4 := Tryz.zeroValue4,
  t5 := Tryz.underlying5,
  a5 := Tryz.isAgg5,
  z5 := Tryz.sizeOf5,
  v5 := Tryz.zeroValue5,
  t9 := Tryz.underlying9,
  a9 := Tryz.isAgg9,
  z9 := Tryz.sizeOf9,
  v9 := Tryz.zeroValue9,
  t22 := Tryz.underlying36,
  a22 := Tryz.isAgg36,
  z22 := Tryz.sizeOf36,
  v22 := Tryz.zeroValue36,
  t25 := Tryz.underlying126,
  a25 := Tryz.isAgg126,
  z25 := Tryz.sizeOf126,
  v25 := Tryz.zeroValue126,
  t39 := Tryz.underlying137,
  a39 := Tryz.isAgg137,
  z39 := Tryz.sizeOf137,
  v39 := Tryz.zeroValue137,
  t45 := Tryz.underlying140,
  a45 := Tryz.isAgg140,
  z45 := Tryz.sizeOf140,
  v45 := Tryz.zeroValue140,
  t46 := Tryz.underlying141,
  a46 := Tryz.isAgg141,
  z46 := Tryz.sizeOf141,
  v46 := Tryz.zeroValue141,
  t50 := Tryz.underlying145,
  a50 := Tryz.isAgg145,
  z50 := Tryz.sizeOf145,
  v50 := Tryz.zeroValue145,
  t53 := Tryz.underlying148,
  a53 := Tryz.isAgg148,
  z53 := Tryz.sizeOf148,
  v53 := Tryz.zeroValue148,
  t55 := Tryz.underlying150,
  a55 := Tryz.isAgg150,
  z55 := Tryz.sizeOf150,
  v55 := Tryz.zeroValue150,
  t66 := Tryz.underlying152,
  a66 := Tryz.isAgg152,
  z66 := Tryz.sizeOf152,
  v66 := Tryz.zeroValue152,
  t70 := Tryz.underlying156,
  a70 := Tryz.isAgg156,
  z70 := Tryz.sizeOf156,
  v70 := Tryz.zeroValue156,
  t76 := Tryz.underlying158,
  a76 := Tryz.isAgg158,
  z76 := Tryz.sizeOf158,
  v76 := Tryz.zeroValue158,
  t77 := Tryz.underlying159,
  a77 := Tryz.isAgg159,
  z77 := Tryz.sizeOf159,
  v77 := Tryz.zeroValue159 }
end

/-! ### Rides in order -/
/-- w with draws and new blocks. -/
def Laid (w w' : World) : Prop := ∃ q os, w' = Go.Sort.grow (w.drewN q) os
theorem Laid.refl (w : World) : Laid w w := ⟨0, #[], by simp [Go.Sort.grow, World.drewN_zero]⟩
theorem Laid.drew {w w' : World} (h : Laid w w') : Laid w w'.drew := by
  obtain ⟨q, os, rfl⟩ := h
  exact ⟨q + 1, os, rfl⟩
theorem Laid.drewN {w w' : World} (h : Laid w w') (n : Nat) : Laid w (w'.drewN n) := by
  obtain ⟨q, os, rfl⟩ := h
  exact ⟨q + n, os, by rw [← World.drewN_drewN]; rfl⟩
theorem Laid.alloc {w w' : World} (h : Laid w w') (o : Obj) : Laid w (w'.alloc o) := by
  obtain ⟨q, os, rfl⟩ := h
  exact ⟨q, os ++ #[o], by rw [Go.Sort.alloc_eq_grow, Go.Sort.grow_grow]⟩
theorem Laid.below {w w' : World} (h : Laid w w') : Below w.heap.size w w' := by
  obtain ⟨q, os, rfl⟩ := h
  refine ⟨rfl, rfl, rfl, by simp [Go.Sort.grow], fun k hk => ?_⟩
  show (w.heap ++ os)[k]? = _
  rw [Array.getElem?_append_left hk]

def firstNZ : List Int → Int
  | [] => 0
  | a :: l => if a ≠ 0 then a else firstNZ l
theorem firstNZ_hit {l : List Int} {k : Nat} {x : Int} (h : ∀ j, j < k → l[j]? = some 0) (hk : l[k]? = some x) (hx : x ≠ 0) : firstNZ l = x := by
  induction l generalizing k with
  | nil => simp at hk
  | cons a l ih =>
    cases k with
    | zero =>
      simp only [List.getElem?_cons_zero, Option.some.injEq] at hk
      subst hk
      simp [firstNZ, hx]
    | succ k =>
      have h0 := h 0 (by omega)
      simp only [List.getElem?_cons_zero, Option.some.injEq] at h0
      subst h0
      simp only [firstNZ, ne_eq, not_true_eq_false, if_false]
      exact ih (k := k) (fun j hj => by simpa using h (j + 1) (by omega)) (by simpa using hk)
theorem firstNZ_zero {l : List Int} (h : ∀ j, j < l.length → l[j]? = some 0) : firstNZ l = 0 := by
  induction l with
  | nil => rfl
  | cons a l ih =>
    have h0 := h 0 (by simp)
    simp only [List.getElem?_cons_zero, Option.some.injEq] at h0
    subst h0
    simp only [firstNZ, ne_eq, not_true_eq_false, if_false]
    exact ih fun j hj => by simpa using h (j + 1) (by simpa using hj)
set_option maxRecDepth 100000 in
theorem Or_same (l : List Int) (v : Value) (W : World) (hv : NumsAt .i64 W v l) : Calls Tryz.prog 73 #[v] W (Same W (.int .i64 (firstNZ l))) := by
  obtain ⟨A, c, rfl, hc, hm⟩ := hv.form
  have Hv := Lib.hid hv
  clear hv
  go_enter Tryz.func73, Tryz.ntmps73
  go_wp2
  go_loopw [8] (fun i wr => ∃ k : Nat, k ≤ l.length ∧ i = .int .i64 k ∧ wr = W ∧ ∀ j, j < k → l[j]? = some 0) (fun i wr => l.length - (intOf i).toNat)
  case atStart => exact ⟨0, by omega, rfl, by simp, by omega⟩
  case round =>
    obtain ⟨k, hk, rfl, rfl, hall⟩ := hrel
    have Hall := Lib.hid hall
    clear hall
    by_cases hlt : k < l.length
    · obtain ⟨b, o, x, rfl, hx, c0, hb⟩ := Hv.out.at_ hlt
      have Hx := Lib.hid hx
      clear hx
      by_cases h0 : x = 0
      · subst h0
        go_wp2
        go_roundw
        case rel =>
          refine ⟨k + 1, by omega, by go_num, by simp, fun j hj => ?_⟩
          by_cases e : j = k
          · subst e; exact Hx.out
          · exact Hall.out j (by omega)
        case measure => simp [intOf]; omega
      · have hxb : (x == 0) = false := beq_eq_false_iff_ne.2 h0
        have hxd : (x != 0) = true := by simp [h0]
        have H0 := Lib.hid h0
        clear h0
        go_wp2
        go_ret
        exact same_int (firstNZ_hit Hall.out Hx.out H0.out).symm
    · obtain rfl : k = l.length := by omega
      go_wp2
      go_ret
      exact same_int (firstNZ_zero Hall.out).symm
def cmpI (x y : Int) : Int := if x < y then -1 else if y < x then 1 else 0
set_option maxRecDepth 100000 in
theorem Compare_same (x y : Int) (W : World) : Calls Tryz.prog 74 #[.int .i64 x, .int .i64 y] W (Same W (.int .i64 (cmpI x y))) := by
  rcases Int.lt_trichotomy x y with h | h | h
  · have e : cmpI x y = -1 := if_pos h
    rw [e]
    have hx : (x == x) = true := by simp
    go_enter Tryz.func74, Tryz.ntmps74
    go_wp2
    go_ret
    exact ⟨rfl, rfl⟩
  · subst h
    have e : cmpI x x = 0 := by simp [cmpI]
    rw [e]
    go_enter Tryz.func74, Tryz.ntmps74
    go_wp2
    go_ret
    exact ⟨rfl, rfl⟩
  · have e : cmpI x y = 1 := by unfold cmpI; rw [if_neg (by omega), if_pos h]
    rw [e]
    have h2 : ¬ x < y := by omega
    go_enter Tryz.func74, Tryz.ntmps74
    go_wp2
    go_ret
    exact ⟨rfl, rfl⟩
theorem Meets.same {P : Program} {f : FuncId} {args : Array Value} {S : World → Prop} {x : Meets S} {v : Value} (h : Calls P f args x.val (Same x.val v)) :
    Calls P f args x.val fun e w'' => e = .returned v ∧ ∃ y : Meets S, w'' = y.val :=
  h.mono fun _ _ ⟨he, hw⟩ => ⟨he, x, hw.symm⟩
def keysR (r s : Rd) : List Int := [cmpI r.day s.day, cmpI r.minute s.minute, cmpI r.low s.low, cmpI r.high s.high]
def cmpRd (r s : Rd) : Int := firstNZ (keysR r s)
def rdC (r : Rd) : List Value := [.int .i64 r.day, .int .i64 r.minute, .int .i64 r.low, .int .i64 r.high]
set_option maxRecDepth 100000 in
set_option maxHeartbeats 1000000 in
theorem cmp_calls (r s : Rd) (w : World) : Calls Tryz.prog 72 #[.agg (rdC r).toArray, .agg (rdC s).toArray] w fun e w' => e = .returned (.int .i64 (cmpRd r s)) ∧ Laid w w' := by
  simp only [rdC]
  have hor := fun (v : Value) (W : World) (hv : NumsAt .i64 W v (keysR r s)) => Or_same (keysR r s) v W hv
  obtain ⟨z, hz⟩ : ∃ z, cmpRd r s = z := ⟨_, rfl⟩
  unfold cmpRd at hz
  simp only [cmpRd]
  rw [hz] at hor ⊢
  unfold keysR at hor
  have Hor := Lib.hid hor
  clear hor hz
  go_enter Tryz.func72, Tryz.ntmps72
  go_wp2_with fail
  have hL : Laid w ((w.alloc (.cells #[.int .i64 r.day, .int .i64 r.minute, .int .i64 r.low, .int .i64 r.high] 68)).alloc (.cells #[.int .i64 s.day, .int .i64 s.minute, .int .i64 s.low, .int .i64 s.high] 68)) := ((Laid.refl w).alloc _).alloc _
  refine wp_name (fun W => Laid w W ∧ (W.cell? ⟨w.heap.size, 0, none⟩ = some (.int .i64 r.day) ∧ W.cell? ⟨w.heap.size, 1, none⟩ = some (.int .i64 r.minute) ∧ W.cell? ⟨w.heap.size, 2, none⟩ = some (.int .i64 r.low) ∧ W.cell? ⟨w.heap.size, 3, none⟩ = some (.int .i64 r.high)) ∧
      W.cell? ⟨w.heap.size + 1, 0, none⟩ = some (.int .i64 s.day) ∧ W.cell? ⟨w.heap.size + 1, 1, none⟩ = some (.int .i64 s.minute) ∧ W.cell? ⟨w.heap.size + 1, 2, none⟩ = some (.int .i64 s.low) ∧ W.cell? ⟨w.heap.size + 1, 3, none⟩ = some (.int .i64 s.high)) ⟨hL, by simp [go_sem], by simp [go_sem]⟩ (fun W hF => ?_)
  obtain ⟨hW, ⟨a0, a1, a2, a3⟩, b0, b1, b2, b3⟩ := hF
  clear hL
  refine wp_region_noPanic ?_
  refine wp_region_pick [0, 1, 2, 3, 5, 6, 7, 8, 10, 11, 12, 13, 15, 16, 17, 18] [4, 9, 14, 19, 20, 21, 22] (fun _ => true) (Laid W) (by kernel_rfl) (by kernel_rfl) (fun _ _ _ _ _ h => h) (Laid.refl _).drew (fun hne => ?_)
  have n0 := fun x : Meets (Laid W) => cell_below (Laid.below x.property) a0
  have n1 := fun x : Meets (Laid W) => cell_below (Laid.below x.property) a1
  have n2 := fun x : Meets (Laid W) => cell_below (Laid.below x.property) a2
  have n3 := fun x : Meets (Laid W) => cell_below (Laid.below x.property) a3
  have n4 := fun x : Meets (Laid W) => cell_below (Laid.below x.property) b0
  have n5 := fun x : Meets (Laid W) => cell_below (Laid.below x.property) b1
  have n6 := fun x : Meets (Laid W) => cell_below (Laid.below x.property) b2
  have n7 := fun x : Meets (Laid W) => cell_below (Laid.below x.property) b3
  simp only [pick, pickN, List.filterMap_cons, List.filterMap_nil, List.getElem?_cons_zero, List.getElem?_cons_succ, Option.map_some]
  repeat (change wpQuiet _ _ _ _ (_ :: _) _; go_big_quiet_step (fail))
  refine wpQuiet_nil ?_
  clear n0 n1 n2 n3 n4 n5 n6 n7 hne
  refine wpSeqP_step (fun K hK => ?_)
  go_simp
  refine (Compare_same r.day s.day _).mono ?_
  rintro e W1 ⟨rfl, rfl⟩
  refine hK.out _ _ (fun _ => (Laid.refl _).drew) ?_
  clear hK K
  refine wpSeqP_step (fun K hK => ?_)
  go_simp
  refine (Compare_same r.minute s.minute _).mono ?_
  rintro e W1 ⟨rfl, rfl⟩
  refine hK.out _ _ (fun _ => (Laid.refl _).drew) ?_
  clear hK K
  refine wpSeqP_step (fun K hK => ?_)
  go_simp
  refine (Compare_same r.low s.low _).mono ?_
  rintro e W1 ⟨rfl, rfl⟩
  refine hK.out _ _ (fun _ => (Laid.refl _).drew) ?_
  clear hK K
  refine wpSeqP_step (fun K hK => ?_)
  go_simp
  refine (Compare_same r.high s.high _).mono ?_
  rintro e W1 ⟨rfl, rfl⟩
  refine hK.out _ _ (fun _ => (Laid.refl _).drew) ?_
  clear hK K
  refine wpSeqP_step (fun K hK => ?_)
  go_simp
  refine hK.out _ _ (fun _ => (Laid.refl _).drew.alloc _) ?_
  clear hK K
  refine wpSeqP_step (fun K hK => ?_)
  go_simp
  refine (Hor.out _ _ (nums_new W.drew [cmpI r.day s.day, cmpI r.minute s.minute, cmpI r.low s.low, cmpI r.high s.high] 3 (by simp [maxLen]))).mono ?_
  rintro e W1 ⟨rfl, rfl⟩
  refine hK.out _ _ (fun _ => (Laid.refl _).drew.alloc _) ?_
  clear hK K
  refine wpSeqP_step (fun K hK => ?_)
  go_simp
  refine hK.out _ _ (fun _ => (Laid.refl _).drew.alloc _) ?_
  clear hK K
  refine wpSeqP_nil ?_
  refine NoPanic.normal ?_
  go_wp2
  go_ret
  exact ⟨rfl, hW.drew.alloc _⟩
/-! ### The order, plain -/
def befR (r s : Rd) : Bool := decide (r.day < s.day) || (decide (r.day = s.day) && (decide (r.minute < s.minute) || (decide (r.minute = s.minute) && (decide (r.low < s.low) || (decide (r.low = s.low) && decide (r.high < s.high))))))
theorem befR_iff {r s : Rd} : befR r s = true ↔ r.day < s.day ∨ r.day = s.day ∧ (r.minute < s.minute ∨ r.minute = s.minute ∧ (r.low < s.low ∨ r.low = s.low ∧ r.high < s.high)) := by
  simp [befR]
theorem cmpRd_neg {r s : Rd} : cmpRd r s < 0 ↔ befR r s = true := by
  rw [befR_iff]
  unfold cmpRd keysR cmpI
  simp only [firstNZ]
  repeat' split
  all_goals omega
theorem ltRd (r s : Rd) : ltOf cmpRd r s = befR r s := by
  unfold ltOf
  rw [Bool.eq_iff_iff, decide_eq_true_eq]
  exact cmpRd_neg
theorem swoRd : Go.Sort.SWO (ltOf cmpRd) where
  irrefl x := by
    rw [ltRd, Bool.eq_false_iff]
    intro h
    rw [befR_iff] at h
    omega
  trans x y z h1 h2 := by
    rw [ltRd, befR_iff] at *
    omega
  ntrans x y z h1 h2 := by
    rw [ltRd, Bool.eq_false_iff, Ne, befR_iff] at *
    omega
theorem befR_total {r s : Rd} (h1 : befR r s = false) (h2 : befR s r = false) : r = s := by
  rw [Bool.eq_false_iff, Ne, befR_iff] at h1 h2
  have : r.day = s.day ∧ r.minute = s.minute ∧ r.low = s.low ∧ r.high = s.high := by omega
  cases r
  cases s
  simp only at this
  obtain ⟨rfl, rfl, rfl, rfl⟩ := this
  rfl
end Go.Proofs.YtmbkpfkkohpnkaaGreat
