import Derived.Test.YtobeffjdfhkjeaaA
import Derived.Test.YtobeffjdfhkjeaaE
import Derived.Test.YtobeffjdfhkjeaaG
set_option linter.unusedVariables false
set_option linter.unusedSimpArgs false
namespace Go.Proofs.Ytobeffjdfhkjeaa
open Go Go.Proofs Go.RowKit

/-- The lists are parts of a truth, each of its stratum. -/
def partsB (ss : List Strat) (ll : List (List Int)) : Bool := (List.range ll.length).all fun i => partB (ss[i]?.getD Strat.none) (ll[i]?.getD [])
def truthB (n : Int) (ss : List Strat) (ll : List (List Int)) : Bool := listsB n ss.length ll && partsB ss ll

theorem partsB_no {ss : List Strat} {ll : List (List Int)} {k : Nat} {s : Strat} {l : List Int} (hs : ss[k]? = some s) (hl : ll[k]? = some l) (h : partB s l = false) : partsB ss ll = false := by
  unfold partsB
  rw [List.all_eq_false]
  exact ⟨k, List.mem_range.2 (List.getElem?_eq_some_iff.1 hl).1, by simp [hs, hl, h]⟩
theorem partsB_yes {ss : List Strat} {ll : List (List Int)} (h : ∀ k, k < ll.length → partB (ss[k]?.getD Strat.none) (ll[k]?.getD []) = true) : partsB ss ll = true := by
  unfold partsB
  rw [List.all_eq_true]
  intro k hk
  exact h k (List.mem_range.1 hk)

set_option maxRecDepth 100000 in
set_option maxHeartbeats 800000 in
theorem IsTruth_any (n : Int) (v u : Value) (ss : List Strat) (ll : List (List Int)) (w : World) (hv : StrataAt w v ss) (hu : RowsAt w u ll) (hn : n ≤ 5)
    (hval : ∀ (j : Nat) (s : Strat), ss[j]? = some s → stratB n s = true) :
    Calls Try.prog 24 #[.agg #[.int .i64 n, v], u] w (Gives w (.bool (truthB n ss ll))) := by
  have Hval := Lib.hid hval
  clear hval
  obtain ⟨A, c, rfl, hc, hm⟩ := hv.form
  obtain ⟨A', c', rfl, hc', hm'⟩ := hu.form
  have hb0 : Below w.heap.size w (w.alloc (.cells #[.int .i64 n, .slice A ss.length c] 24)) := (Below.refl _ _).alloc (Nat.le_refl _) _
  cases h1 : listsB n ss.length ll with
  | false =>
    have e : truthB n ss ll = false := by simp [truthB, h1]
    rw [e]; clear e
    go_enter Try.func24, Try.ntmps24
    go_wp2_with (go_at_call 35; refine (Gives.to h1 (Lists_any _ _ _ ss ll _ (hv.below hb0) (hu.below hb0))).mono ?_; rintro e w1 ⟨rfl, hb1⟩)
    go_ret
    exact ⟨rfl, hb0.trans (hb1.mono hb0.size)⟩
  | true =>
    have H1 := Lib.hid h1
    have hlen := (listsB_iff.1 h1).1
    have Hrow := Lib.hid (listsB_iff.1 h1).2
    have hl1 : ll.length ≤ ss.length := by omega
    clear hlen
    go_enter Try.func24, Try.ntmps24
    go_wp2_with (go_at_call 35; refine (Gives.to h1 (Lists_any _ _ _ ss ll _ (hv.below hb0) (hu.below hb0))).mono ?_; rintro e w1 ⟨rfl, hb1⟩)
    clear h1
    have g1 : w1.cell? ⟨w.heap.size, 1, none⟩ = some (.slice A ss.length c) := cell_below hb1 (by simp [go_sem])
    have hs1 : w.heap.size < w1.heap.size := Nat.lt_of_lt_of_le (by simp) hb1.size
    have hw1 := hb0.trans (hb1.mono hb0.size)
    clear hb0 hb1
    go_loopw [5] (fun i wr => ∃ k : Nat, k ≤ ll.length ∧ i = .int .i64 k ∧ Below w.heap.size w wr ∧ wr.cell? ⟨w.heap.size, 1, none⟩ = some (.slice A ss.length c) ∧
        ∀ j, j < k → partB (ss[j]?.getD Strat.none) (ll[j]?.getD []) = true) (fun i wr => ll.length - (intOf i).toNat)
    case atStart => exact ⟨0, by omega, rfl, hw1, g1, by intro j h; omega⟩
    case round =>
      obtain ⟨k, hk, rfl, hb, f1, hall⟩ := hrel
      have Hall := Lib.hid hall
      clear hall g1
      by_cases hlt : k < ll.length
      · obtain ⟨b, o, l, x, rfl, hl, dl, hx, _⟩ := (hu.below hb).at_ hlt
        obtain ⟨b', o', s, y, rfl, hs, hy, e0, e1, e2, e3, _⟩ := (hv.below hb).at_ (k := k) (by omega)
        have q1 := Hrow.out k l hl
        have q2 := stratB_iff.1 (Hval.out k s hs)
        have hok := rowB_ok hn q1
        have hle : l.length ≤ s.seen.length := by have := (rowB_iff.1 q1).1; omega
        have Hl := Lib.hid hl
        have Hs := Lib.hid hs
        clear hl hs q1 q2
        have i0 : (0 : Int) ≤ (k : Int) := by omega
        have i1 : (k : Int) < (ll.length : Int) := by omega
        have i2 : (k : Int) < (ss.length : Int) := by omega
        replace dl := Later.cell dl
        replace e0 := Later.cell e0
        replace e1 := Later.cell e1
        replace e2 := Later.cell e2
        replace e3 := Later.cell e3
        have g1 := Later.cell f1
        cases hp : partB s l
        all_goals
          go_wp2_with fail
          refine wp_region_later (by kernel_rfl) (by kernel_rfl) ?_
          repeat (go_big_quiet_step ((go_at_call 36; exact Later.call (Gives.to hp (Part_any s _ _ l _ (hy.below (Subtype.property _)) (hx.below (Subtype.property _)) hle hok)))))
          refine wpQuiet_nil ?_
          intro w2 hx2
          have hb2 := Later.out hx2
          clear hx2 dl e0 e1 e2 e3 g1
          go_wp2
        · go_ret
          refine gives_bool ?_ (hb.trans (hb2.mono hb.size))
          simp [truthB, partsB_no Hs.out Hl.out hp]
        · go_roundw
          case rel =>
            refine ⟨k + 1, by omega, by go_num, hb.trans (hb2.mono hb.size), cell_below hb2 f1, fun j hj => ?_⟩
            by_cases e : j = k
            · subst e
              rw [Hs.out, Hl.out]
              exact hp
            · exact Hall.out j (by omega)
          case measure => simp [intOf]; omega
      · go_wp2
        go_ret
        refine gives_bool ?_ hb
        rw [truthB, H1.out, partsB_yes fun j hj => Hall.out j (by omega)]
        rfl

theorem fault_any (n : Int) (v : Value) (ss : List Strat) (w : World) (hv : StrataAt w v ss) :
    Calls Try.prog 23 #[.agg #[.int .i64 n, v]] w (Gives w (.int .i64 (faultI n ss))) := by
  have hb0 : Below w.heap.size w (w.alloc (.cells #[.int .i64 n, v] 24)) := (Below.refl _ _).alloc (Nat.le_refl _) _
  obtain ⟨A, c, rfl, hc, hm⟩ := hv.form
  go_enter Try.func23, Try.ntmps23
  go_wp2_with (go_at_call 32; refine (Fault_any _ _ ss _ (hv.below hb0)).mono ?_; rintro e w1 ⟨rfl, hb1⟩)
  go_ret
  exact ⟨rfl, hb0.trans (hb1.mono hb0.size)⟩

def readyB (n : Int) (ss : List Strat) : Bool := thinB ss && (faultI n ss == 0)

theorem ready_any (n : Int) (v : Value) (ss : List Strat) (w : World) (hv : StrataAt w v ss) :
    Calls Try.prog 26 #[.agg #[.int .i64 n, v]] w (Gives w (.bool (readyB n ss))) := by
  have hb0 : Below w.heap.size w (w.alloc (.cells #[.int .i64 n, v] 24)) := (Below.refl _ _).alloc (Nat.le_refl _) _
  obtain ⟨A, c, rfl, hc, hm⟩ := hv.form
  cases h1 : thinB ss with
  | false =>
    have e : readyB n ss = false := by simp [readyB, h1]
    rw [e]; clear e
    go_enter Try.func26, Try.ntmps26
    go_wp2_with (go_at_call 16; refine (Gives.to h1 (thin_any _ _ ss _ (hv.below hb0))).mono ?_; rintro e w1 ⟨rfl, hb1⟩)
    go_ret
    exact ⟨rfl, hb0.trans (hb1.mono hb0.size)⟩
  | true =>
    have e : readyB n ss = (faultI n ss == 0) := by simp [readyB, h1]
    rw [e]; clear e
    go_enter Try.func26, Try.ntmps26
    go_wp2_with (go_at_call 16; refine (Gives.to h1 (thin_any _ _ ss _ (hv.below hb0))).mono ?_; rintro e w1 ⟨rfl, hb1⟩; have g0 : w1.cell? ⟨w.heap.size, 0, none⟩ = some (.int .i64 n) := cell_below hb1 (by simp [go_sem]); have g1 : w1.cell? ⟨w.heap.size, 1, none⟩ = some (.slice A ss.length c) := cell_below hb1 (by simp [go_sem]); have hw1 := hb0.trans (hb1.mono hb0.size))
    go_wp2_with (go_at_call 32; refine (Fault_any _ _ ss _ (hv.below hw1)).mono ?_; rintro e w2 ⟨rfl, hb2⟩)
    go_ret
    exact ⟨rfl, hw1.trans (hb2.mono hw1.size)⟩

def shortB (ll : List (List Int)) : Bool := decide (ll.length ≤ 12) && ll.all fun l => decide (l.length ≤ 9)

theorem short_any (v : Value) (ll : List (List Int)) (w : World) (hv : RowsAt w v ll) : Calls Try.prog 17 #[v] w (Gives w (.bool (shortB ll))) := by
  obtain ⟨A, c, rfl, hc, hm⟩ := hv.form
  go_enter Try.func17, Try.ntmps17
  go_wp2
  go_loop [3] (fun i => ∃ k : Nat, k ≤ ll.length ∧ k ≤ 13 ∧ i = .int .i64 k ∧ (∀ (j : Nat) (l : List Int), j < k → ll[j]? = some l → l.length ≤ 9)) (fun i => ll.length - (intOf i).toNat)
  case atStart => exact ⟨0, by omega, by omega, rfl, by intro j s h; omega⟩
  case round =>
    obtain ⟨k, hk, hk13, rfl, hall⟩ := hrel
    have Hall := Lib.hid hall
    clear hall
    by_cases hlt : k < ll.length
    · by_cases h13 : k < 13
      · obtain ⟨b, o, l, x, rfl, hl, dl, hx, _⟩ := hv.at_ hlt
        obtain ⟨A', c', rfl, hc', hm'⟩ := hx.form
        have Hl := Lib.hid hl
        clear hl
        have hk0 : (k : Int) < 13 := by omega
        go_wp2
        · have h9 : 9 < (l.length : Int) := by assumption
          go_ret
          refine gives_bool ?_ (Below.refl _ _)
          rw [shortB, not_all_of Hl.out (by simp; omega)]
          simp
        · have h9 : (l.length : Int) ≤ 9 := by assumption
          go_round
          case rel =>
            refine ⟨k + 1, by omega, by omega, by go_num, fun j s hj hs => ?_⟩
            by_cases e : j = k
            · subst e
              rw [Hl.out] at hs
              cases hs
              omega
            · exact Hall.out j s (by omega) hs
          case measure => simp [intOf]; omega
      · go_wp2
        go_ret
        refine gives_bool ?_ (Below.refl _ _)
        rw [shortB, decide_eq_false (by omega : ¬ ll.length ≤ 12)]
        simp; omega
    · go_wp2
      go_ret
      refine gives_bool ?_ (Below.refl _ _)
      by_cases h12 : ll.length ≤ 12
      · rw [shortB, all_of fun j s hj hs => by simpa using Hall.out j s (by omega) hs]
        simp; omega
      · rw [shortB, decide_eq_false h12]
        simp; omega

theorem ints_any (v u : Value) (a b : List Int) (w : World) (hv : NumsAt .i64 w v a) (hu : NumsAt .i64 w u b) : Calls Try.prog 33 #[v, u] w (Gives w (.bool (decide (a = b)))) := by
  obtain ⟨A, c, rfl, hc, hm⟩ := hv.form
  obtain ⟨A', c', rfl, hc', hm'⟩ := hu.form
  by_cases e : ((a.length : Int) != (b.length : Int)) = false
  · have hl0 : (a.length : Int) = (b.length : Int) := by simpa using e
    have hl : a.length = b.length := by omega
    clear hl0
    have hl1 : a.length ≤ b.length := by omega
    have hl2 : b.length ≤ a.length := by omega
    clear hl
    go_enter Try.func33, Try.ntmps33
    go_wp2
    go_loopw [5] (fun i wr => ∃ k : Nat, k ≤ a.length ∧ i = .int .i64 k ∧ Below w.heap.size w wr ∧ ∀ j, j < k → a[j]? = b[j]?) (fun i wr => a.length - (intOf i).toNat)
    case atStart => exact ⟨0, by omega, rfl, Below.refl _ _, by intro j h; omega⟩
    case round =>
      obtain ⟨k, hk, rfl, hb, hall⟩ := hrel
      have Hall := Lib.hid hall
      clear hall
      by_cases hlt : k < a.length
      · obtain ⟨p, o, x, rfl, hx, dx, _⟩ := (hv.below hb).at_ hlt
        obtain ⟨p', o', y, rfl, hy, dy, _⟩ := (hu.below hb).at_ (k := k) (by omega)
        have Hx := Lib.hid hx
        have Hy := Lib.hid hy
        clear hx hy
        have i0 : (0 : Int) ≤ (k : Int) := by omega
        have i1 : (k : Int) < (a.length : Int) := by omega
        have i2 : (k : Int) < (b.length : Int) := by omega
        replace dx := Later.cell dx
        replace dy := Later.cell dy
        go_wp2_with fail
        refine wp_region_later (by kernel_rfl) (by kernel_rfl) ?_
        repeat (go_big_quiet_step (fail))
        refine wpQuiet_nil ?_
        intro w2 hx2
        have hb2 := Later.out hx2
        clear hx2 dx dy
        by_cases exy : (x != y) = true
        · go_wp2
          go_ret
          refine gives_bool ?_ (hb.trans (hb2.mono hb.size))
          symm
          rw [decide_eq_false_iff_not]
          rintro rfl
          have := Hx.out.symm.trans Hy.out
          cases this
          simp at exy
        · replace exy : (x != y) = false := by simpa using exy
          go_wp2
          go_roundw
          case rel =>
            refine ⟨k + 1, by omega, by go_num, hb.trans (hb2.mono hb.size), fun j hj => ?_⟩
            by_cases e : j = k
            · subst e
              rw [Hx.out, Hy.out]
              simpa using exy
            · exact Hall.out j (by omega)
          case measure => simp [intOf]; omega
      · go_wp2
        go_ret
        refine gives_bool ?_ hb
        symm
        rw [decide_eq_true_iff]
        apply List.ext_getElem?
        intro j
        by_cases hj : j < k
        · exact Hall.out j hj
        · rw [List.getElem?_eq_none (by omega), List.getElem?_eq_none (by omega)]
  · have e1 : ((a.length : Int) != (b.length : Int)) = true := by simpa using e
    clear e
    go_enter Try.func33, Try.ntmps33
    go_wp2
    go_ret
    refine gives_bool ?_ (Below.refl _ _)
    symm
    rw [decide_eq_false_iff_not]
    rintro rfl
    simp at e1
end Go.Proofs.Ytobeffjdfhkjeaa
