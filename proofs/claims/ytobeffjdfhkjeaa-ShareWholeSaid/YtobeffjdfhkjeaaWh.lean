import Derived.Test.YtobeffjdfhkjeaaPF
import Derived.Test.YtobeffjdfhkjeaaWake
set_option linter.unusedVariables false
set_option linter.unusedSimpArgs false
set_option linter.unusedSectionVars false
namespace Go.Proofs.Ytobeffjdfhkjeaa
open Go Go.Proofs Go.RowKit

/-! ### ShareWhole -/
def wPart (coins : Int) (ws : List Int) (i : Nat) : Int := if 0 < sumL ws then coins * (ws[i]?.getD 0) / sumL ws else coins / (ws.length : Int)

section
variable {coins : Int} {ws : List Int} (h : DivOk coins ws)
include h
theorem whole_zero (hz : sumL ws = 0) : wholeW ws = ws.length := by
  have : ∀ l : List Int, sumL (l.map (fun _ => 1)) = l.length := by
    intro l
    induction l with
    | nil => rfl
    | cons a l ih => simp [sumL, ih]; omega
  unfold wholeW divW
  rw [if_pos hz, this]
theorem sum_nonneg : 0 ≤ sumL ws ∧ sumL ws ≤ 5000000 := by
  have := sumL_bound (M := 1000000) (by omega) h.ws
  have := h.len
  omega
theorem quo_part {i : Nat} (hi : i < ws.length) : quoAt coins ws i = wPart coins ws i := by
  have h0 := sum_nonneg h
  unfold quoAt wPart
  rw [divW_get hi]
  by_cases hz : sumL ws = 0
  · rw [if_pos hz, whole_zero h hz, if_neg (by omega), Int.mul_one]
  · rw [if_neg hz, if_pos (by omega)]
    unfold wholeW divW
    rw [if_neg hz]
theorem part_bd {i : Nat} (hi : i < ws.length) : 0 ≤ wPart coins ws i ∧ wPart coins ws i ≤ 10000000000000 := by
  rw [← quo_part h hi]
  exact h.quo i
theorem whole_at {i : Nat} (hi : i < ws.length) : wPart coins ws i ≤ divAt coins ws (leftAll coins ws).toNat i ∧ divAt coins ws (leftAll coins ws).toNat i ≤ wPart coins ws i + 1 := by
  rw [← quo_part h hi]
  exact div_part h i
theorem whole_none {i : Nat} (hi : i < ws.length) (hs : 0 < sumL ws) (hw : ws[i]?.getD 0 = 0) : divAt coins ws (leftAll coins ws).toNat i = 0 :=
  div_zero h hi (by rw [divW_get hi, if_neg (by omega), hw])
theorem whole_all_zero (hz : sumL ws = 0) {i : Nat} (hi : i < ws.length) : ws[i]?.getD 0 = 0 := by
  have key : ∀ l : List Int, (∀ x ∈ l, 0 ≤ x) → sumL l = 0 → ∀ x ∈ l, x = 0 := by
    intro l
    induction l with
    | nil => intro _ _ x hx; cases hx
    | cons a l ih =>
      intro hp hs x hx
      have ha := hp a (by simp)
      have hl : 0 ≤ sumL l := by
        clear ih hs hx
        induction l with
        | nil => simp [sumL]
        | cons b l ih2 =>
          have := hp b (by simp)
          have := ih2 (fun y hy => hp y (by simp at hy ⊢; rcases hy with h | h <;> simp [h]))
          simp only [sumL]; omega
      simp only [sumL] at hs
      rcases List.mem_cons.1 hx with rfl | hx
      · omega
      · exact ih (fun y hy => hp y (by simp [hy])) (by omega) x hx
  rw [List.getElem?_eq_getElem hi]
  exact key ws (fun x hx => (h.ws x hx).1) hz _ (List.getElem_mem hi)
theorem whole_mono {i k : Nat} (hi : i < ws.length) (hk : k < ws.length) (hw : ws[i]?.getD 0 < ws[k]?.getD 0) :
    divAt coins ws (leftAll coins ws).toNat i ≤ divAt coins ws (leftAll coins ws).toNat k := by
  by_cases hz : sumL ws = 0
  · have h1 := whole_all_zero h hz hi
    have h2 := whole_all_zero h hz hk
    omega
  · exact div_mono h hi hk (by rw [divW_get hi, divW_get hk, if_neg hz, if_neg hz]; exact hw)
theorem div_bd {i : Nat} (hi : i < ws.length) : 0 ≤ divAt coins ws (leftAll coins ws).toNat i ∧ divAt coins ws (leftAll coins ws).toNat i ≤ 10000000000001 := by
  have h1 := whole_at h hi
  have h2 := part_bd h hi
  omega
end

def modL (us : List Int) : List Int := us.map (· % 1000001)
theorem modL_length (us : List Int) : (modL us).length = us.length := by simp [modL]
theorem modL_get {us : List Int} {k : Nat} {x : Int} (h : us[k]? = some x) : (modL us)[k]? = some (x % 1000001) := by simp [modL, h]
theorem modL_ok {coins : Int} {us : List Int} (h1 : 1 ≤ us.length) (h2 : us.length ≤ 5) : DivOk (coins % 10000001) (modL us) :=
  ⟨by rw [modL_length]; omega, fun x hx => by obtain ⟨y, _, rfl⟩ := List.mem_map.1 hx; omega, by omega⟩

theorem divL_at {coins : Int} {ws : List Int} {c : Nat} (hc : c < ws.length) : (divL coins ws)[c]? = some (divAt coins ws (leftAll coins ws).toNat c) := by
  unfold divL
  rw [List.getElem?_map, List.getElem?_range hc]
  rfl
theorem NumsAt.get {K : IntKind} {w : World} {b o n c : Nat} {l : List Int} (h : NumsAt K w (.slice (some ⟨b, o, none⟩) n c) l) {k : Nat} {x : Int} (hx : l[k]? = some x) : w.cell? ⟨b, o + k, none⟩ = some (.int K x) := by
  obtain ⟨b', o', y, e, hy, dy, _⟩ := h.at_ (k := k) (List.getElem?_eq_some_iff.1 hx).1
  cases e
  rw [hx] at hy
  cases hy
  exact dy

set_option maxRecDepth 100000 in
set_option maxHeartbeats 1600000 in
theorem Whole_not (coins : Int) (v : Value) (us : List Int) (w : World) (hv : NumsAt .u32 w v us) (h : us.length = 0 ∨ 5 < us.length) :
    Calls Try.prog 14 #[.int .u32 coins, v] w (Gives w (.bool true)) := by
  obtain ⟨A, c, rfl, hc, hm⟩ := hv.form
  rcases h with h | h
  · have h0 : ((us.length : Int) == 0) = true := by simp [h]
    clear h
    go_enter Try.func14, Try.ntmps14
    go_wp2_with fail
    refine (wakes_any _).mono ?_; rintro e w1 ⟨rfl, hb1⟩
    go_wp2
    go_ret
    exact ⟨rfl, hb1⟩
  · have h0 : ((us.length : Int) == 0) = false := beq_eq_false_iff_ne.2 (by omega)
    have h5 : (5 : Int) < (us.length : Int) := by omega
    clear h
    go_enter Try.func14, Try.ntmps14
    go_wp2_with fail
    refine (wakes_any _).mono ?_; rintro e w1 ⟨rfl, hb1⟩
    go_wp2
    go_ret
    exact ⟨rfl, hb1⟩

set_option maxRecDepth 100000 in
set_option maxHeartbeats 3200000 in
theorem Whole_ok (coins : Int) (v : Value) (us : List Int) (w : World) (hv : NumsAt .u32 w v us) (hu : ∀ x ∈ us, 0 ≤ x ∧ x ≤ 4294967295) (hc0 : 0 ≤ coins) (hc1 : coins ≤ 4294967295) (h1 : 1 ≤ us.length) (h2 : us.length ≤ 5) :
    Calls Try.prog 14 #[.int .u32 coins, v] w (Gives w (.bool true)) := by
  obtain ⟨A, c, rfl, hc, hm⟩ := hv.form
  obtain ⟨i0, hi0, hz0, hz1, hz2⟩ := info_parts info3
  have h0 : ((us.length : Int) == 0) = false := beq_eq_false_iff_ne.2 (by omega)
  have h5 : (us.length : Int) ≤ 5 := by omega
  have hok := modL_ok (coins := coins) h1 h2
  have Hok := Lib.hid hok
  have Hu := Lib.hid hu
  clear hok hu
  have hpos : 0 < us.length := by omega
  obtain ⟨C, hC⟩ : ∃ C, coins % 10000001 = C := ⟨_, rfl⟩
  rw [hC] at Hok
  go_enter Try.func14, Try.ntmps14
  go_wp2_with fail
  have HC := Lib.hid hC
  clear hC
  go_loopw [6, 7] (fun x i wr => ∃ (k : Nat) (A6 : Option Addr) (c6 : Nat), k ≤ us.length ∧ i = .int .i64 k ∧ x = .slice A6 k c6 ∧ Below w.heap.size w wr ∧ wr.ownsRow w.heap.size 3 1 (.slice A6 k c6) k (((modL us).take k).map (.int .i64))) (fun x i wr => us.length - (intOf i).toNat)
  case atStart => exact ⟨0, none, 0, by omega, rfl, rfl, Below.refl _ _, World.ownsRow_nil _ _ _ _⟩
  case round =>
    obtain ⟨k, A6, c6, hk, rfl, rfl, hb, hown⟩ := hrel
    obtain ⟨wo, rfl⟩ : ∃ wo : World, wo = wr := ⟨_, rfl⟩
    by_cases hlt : k < us.length
    · have k0 : (0 : Int) ≤ (k : Int) := by omega
      have k1 : (k : Int) < (us.length : Int) := by omega
      obtain ⟨b, o, x, rfl, hx, dx, hbx⟩ := (hv.below hb).at_ hlt
      have hxb := Hu.out x (List.mem_of_getElem? hx)
      have Hx := Lib.hid hx
      clear hx
      go_wp2_with (at_builtin; refine wpList_append_src _ rfl (.tmp 32) (.tmp 39) 35 rfl w.heap.size 3 i0 _ 1 8 Try.underlying35 hi0 hz0 hz1 hz2 rfl (by omega) (.slice A6 k c6) k _ rfl (hown.alloc _) (some ⟨wo.heap.size, 0, none⟩) 1 1 [.int .i64 (x % 1000001)] rfl (src_new wo [.int .i64 (x % 1000001)] 3 1 1 rfl) (by simp [Value.oneCell']) (by simp [maxLen]; omega) (by omega) (by have := hb.size; simp; omega) ?_; intro v5 w5 hown5 hg5 hat5)
      obtain ⟨A5, c5, rfl⟩ := own_form hown5
      have hg6 : (wo.alloc (.cells #[.int .i64 (x % 1000001)] 3)).grownBy w5 (Value.slice A6 k c6).ownBlock := hg5
      have hb5 := below_grown (hb.alloc hb.size (.cells #[.int .i64 (x % 1000001)] 3)) hg6 (by have := hb.size; simp; omega) (hown.alloc _) (Nat.le_refl _)
      have hrow : (((modL us).take k).map (Value.int .i64) ++ [.int .i64 (x % 1000001)]) = ((modL us).take (k + 1)).map (.int .i64) := by
        rw [List.take_add_one, modL_get Hx.out]
        simp
      rw [hrow] at hown5
      clear hg5 hat5 hrow
      go_roundw
      case rel => exact ⟨k + 1, A5, c5, by omega, by go_num, rfl, hb5, hown5⟩
      case measure => simp [intOf]; omega
    · obtain rfl : k = us.length := by omega
      rw [List.take_of_length_le (by rw [modL_length]; exact Nat.le_refl _)] at hown
      have n6 := nums_of_own hown
      have Hml : Hid ((modL us).length = us.length) := modL_length us
      obtain ⟨ws, hws⟩ : ∃ ws, modL us = ws := ⟨_, rfl⟩
      rw [hws] at Hok Hml n6
      clear hown hws
      have hCb := Hok.out.coins
      have hsok : SumOk ws := sumOk_of (by rw [Hml.out]; omega) fun x hx => by have := Hok.out.ws x hx; omega
      have hSb := sum_nonneg Hok.out
      go_wp2_with fail
      refine (Sum_same _ ws _ n6 hsok).mono ?_; rintro e w1 ⟨rfl, rfl⟩
      go_wp2_with fail
      refine (list_any _ ws _ n6 (by rw [Hml.out]; omega)).mono ?_; rintro e w1 ⟨A1, c1, rfl, o1, hb1⟩
      have hw1 := hb.trans (hb1.mono hb.size)
      have n1 := nums_of_own o1
      go_wp2_with fail
      rw [HC.out]
      refine (Divide_ok C _ ws _ n1 Hok.out).mono ?_; rintro e w2 ⟨A2, c2, rfl, o2, hb2⟩
      have hw2 := hw1.trans (hb2.mono hw1.size)
      rw [rowF_map] at o2
      have n2 : NumsAt .i64 w2 (.slice A2 ws.length c2) (divL C ws) := nums_of_own (l := divL C ws) o2
      have hsum := div_sum Hok.out
      have hdok : SumOk (divL C ws) := sumOk_of (by rw [divL_length, Hml.out]; omega) fun x hx => by
        obtain ⟨j, hj, rfl⟩ := List.getElem_of_mem hx
        have h0 : ∀ z ∈ divL C ws, 0 ≤ z := fun z hz => by
          unfold divL at hz
          obtain ⟨c, hc, rfl⟩ := List.mem_map.1 hz
          exact (div_bd Hok.out (List.mem_range.1 hc)).1
        have := elem_le_sum h0 j
        rw [List.getElem?_eq_getElem hj, Option.getD_some, hsum] at this
        exact ⟨h0 _ (List.getElem_mem hj), by omega⟩
      have n6' := n6.below (hb1.trans (hb2.mono hb1.size))
      have Hsum := Lib.hid hsum
      have hlw : (ws.length : Int) = (us.length : Int) := by rw [Hml.out]
      clear o1 o2 n6 n1 hsum hb1 hb2 hw1
      go_wp2_with fail
      refine (Sum_same _ (divL C ws) _ n2 hdok).mono ?_
      rw [Hsum.out]
      rintro e w3 ⟨rfl, rfl⟩
      go_wp2_with fail
      go_loopw [11] (fun i wr => ∃ k : Nat, k ≤ ws.length ∧ i = .int .i64 k ∧ Below w2.heap.size w2 wr) (fun i wr => ws.length - (intOf i).toNat)
      case atStart => exact ⟨0, by omega, rfl, Below.refl _ _⟩
      case round =>
        obtain ⟨k, hk', rfl, hbr⟩ := hrel
        obtain ⟨wo, rfl⟩ : ∃ wo : World, wo = wr := ⟨_, rfl⟩
        by_cases hlt : k < ws.length
        · have k0 : (0 : Int) ≤ (k : Int) := by omega
          have k1 : (k : Int) < (ws.length : Int) := by omega
          have k2 : (k : Int) < (us.length : Int) := by omega
          obtain ⟨bx, ox, x, rfl, hx, dx, _⟩ := (n6'.below hbr).at_ hlt
          obtain ⟨bd, od, d, rfl, hd, dd, _⟩ := (n2.below hbr).at_ (k := k) (by rw [divL_length]; exact hlt)
          have hd' := divL_at (coins := C) (ws := ws) hlt
          rw [hd] at hd'
          cases hd'
          have w1' := whole_at Hok.out hlt
          have w2' := part_bd Hok.out hlt
          have w3' := whole_none Hok.out hlt
          have hxb := Hok.out.ws x (List.mem_of_getElem? hx)
          have hpx := mul_bd hCb.1 hCb.2 hxb.1 hxb.2
          have hwp : wPart C ws k = if 0 < sumL ws then C * x / sumL ws else C / (ws.length : Int) := by
            unfold wPart
            rw [hx, Option.getD_some]
          rw [hwp] at w1' w2'
          rw [hx, Option.getD_some] at w3'
          have Hx := Lib.hid hx
          have Hd := Lib.hid hd
          obtain ⟨d, hdd⟩ : ∃ d, divAt C ws (leftAll C ws).toNat k = d := ⟨_, rfl⟩
          have Hdv := Lib.hid hdd
          rw [hdd] at w1' w3' dd
          clear hx hd hdd hwp
          by_cases hS : 0 < sumL ws
          · rw [if_pos hS] at w1' w2'
            have w4 := w3' hS
            obtain ⟨p, hpe⟩ : ∃ p, C * x / sumL ws = p := ⟨_, rfl⟩
            rw [hpe] at w1' w2'
            clear w3'
            by_cases hx0 : x = 0
            · have hd0 : (d != 0) = false := by simp [w4 hx0]
              have hx1 : (x == 0) = true := by simp [hx0]
              clear w4 hx0
              go_wp2_with fail
              clear hpe
              go_loopw [13] (fun i wi => ∃ j : Nat, j ≤ k ∧ i = .int .i64 j ∧ Below w2.heap.size w2 wi) (fun i wi => k - (intOf i).toNat)
              case atStart => exact ⟨0, by omega, rfl, hbr⟩
              case round =>
                obtain ⟨j, hj, rfl, hbj⟩ := hrel
                obtain ⟨wi, rfl⟩ : ∃ wi : World, wi = wr := ⟨_, rfl⟩
                by_cases hjk : j < k
                · have j0 : (0 : Int) ≤ (j : Int) := by omega
                  have j1 : (j : Int) < (k : Int) := by omega
                  have j2 : (j : Int) < (ws.length : Int) := by omega
                  have j3 : (j : Int) < (us.length : Int) := by omega
                  obtain ⟨by', oy, y, e1, hy, dy, _⟩ := (n6'.below hbj).at_ (k := j) (by omega)
                  cases e1
                  obtain ⟨be', oe, e, e2, he, de, _⟩ := (n2.below hbj).at_ (k := j) (by rw [divL_length]; omega)
                  cases e2
                  have he' := divL_at (coins := C) (ws := ws) (c := j) (by omega)
                  rw [he] at he'
                  cases he'
                  have dx' := cell_below (Below.refl _ _) ((n6'.below hbj).get (k := k) Hx.out)
                  have dd' := (n2.below hbj).get (k := k) Hd.out; rw [Hdv.out] at dd'
                  have m1 := whole_mono Hok.out (i := j) (k := k) (by omega) (by omega)
                  have m2 := whole_mono Hok.out (i := k) (k := j) (by omega) (by omega)
                  rw [hy, Hx.out, Hdv.out] at m1 m2
                  simp only [Option.getD_some] at m1 m2
                  obtain ⟨e, hee⟩ : ∃ e, divAt C ws (leftAll C ws).toNat j = e := ⟨_, rfl⟩
                  rw [hee] at m1 m2 de
                  clear hy he hee
                  replace dx' := Later.cell dx'
                  replace dd' := Later.cell dd'
                  replace dy := Later.cell dy
                  replace de := Later.cell de
                  rcases Int.lt_trichotomy x y with hc | hc | hc
                  · have d1 : decide (x < y) = true := decide_eq_true hc
                    have d2 : decide (e < d) = false := decide_eq_false (by have := m2 hc; omega)
                    have d3 : decide (y < x) = false := decide_eq_false (by omega)
                    clear m1 m2
                    go_wp2_with fail
                    refine wp_region_later (by kernel_rfl) (by kernel_rfl) ?_
                    repeat (go_big_quiet_step (fail))
                    refine wpQuiet_nil ?_
                    intro w5 hx5
                    have hb5 := Later.out hx5
                    clear hx5 dx' dd' dy de
                    go_wp2
                    go_roundw
                    case rel => exact ⟨j + 1, by omega, by go_num, hbj.trans (hb5.mono hbj.size)⟩
                    case measure => simp [intOf]; omega
                  · subst hc
                    have d1 : decide (x < x) = false := decide_eq_false (by omega)
                    clear m1 m2
                    go_wp2_with fail
                    refine wp_region_later (by kernel_rfl) (by kernel_rfl) ?_
                    repeat (go_big_quiet_step (fail))
                    refine wpQuiet_nil ?_
                    intro w5 hx5
                    have hb5 := Later.out hx5
                    clear hx5 dx' dd' dy de
                    go_wp2
                    go_roundw
                    case rel => exact ⟨j + 1, by omega, by go_num, hbj.trans (hb5.mono hbj.size)⟩
                    case measure => simp [intOf]; omega
                  · have m3 := m1 hc
                    have d1 : decide (x < y) = false := decide_eq_false (by omega)
                    have d2 : decide (d < e) = false := decide_eq_false (by have := m1 hc; omega)
                    have d3 : decide (y < x) = true := decide_eq_true hc
                    clear m1 m2
                    go_wp2_with fail
                    refine wp_region_later (by kernel_rfl) (by kernel_rfl) ?_
                    repeat (go_big_quiet_step (fail))
                    refine wpQuiet_nil ?_
                    intro w5 hx5
                    have hb5 := Later.out hx5
                    clear hx5 dx' dd' dy de
                    go_wp2
                    go_roundw
                    case rel => exact ⟨j + 1, by omega, by go_num, hbj.trans (hb5.mono hbj.size)⟩
                    case measure => simp [intOf]; omega
                · obtain rfl : j = k := by omega
                  go_wp2
                  go_roundw
                  case rel => exact ⟨j + 1, by omega, by go_num, hbj⟩
                  case measure => simp [intOf]; omega
            · have hx1 : (x == 0) = false := beq_eq_false_iff_ne.2 hx0
              clear w4 hx0
              go_wp2_with fail
              clear hpe
              go_loopw [13] (fun i wi => ∃ j : Nat, j ≤ k ∧ i = .int .i64 j ∧ Below w2.heap.size w2 wi) (fun i wi => k - (intOf i).toNat)
              case atStart => exact ⟨0, by omega, rfl, hbr⟩
              case round =>
                obtain ⟨j, hj, rfl, hbj⟩ := hrel
                obtain ⟨wi, rfl⟩ : ∃ wi : World, wi = wr := ⟨_, rfl⟩
                by_cases hjk : j < k
                · have j0 : (0 : Int) ≤ (j : Int) := by omega
                  have j1 : (j : Int) < (k : Int) := by omega
                  have j2 : (j : Int) < (ws.length : Int) := by omega
                  have j3 : (j : Int) < (us.length : Int) := by omega
                  obtain ⟨by', oy, y, e1, hy, dy, _⟩ := (n6'.below hbj).at_ (k := j) (by omega)
                  cases e1
                  obtain ⟨be', oe, e, e2, he, de, _⟩ := (n2.below hbj).at_ (k := j) (by rw [divL_length]; omega)
                  cases e2
                  have he' := divL_at (coins := C) (ws := ws) (c := j) (by omega)
                  rw [he] at he'
                  cases he'
                  have dx' := cell_below (Below.refl _ _) ((n6'.below hbj).get (k := k) Hx.out)
                  have dd' := (n2.below hbj).get (k := k) Hd.out; rw [Hdv.out] at dd'
                  have m1 := whole_mono Hok.out (i := j) (k := k) (by omega) (by omega)
                  have m2 := whole_mono Hok.out (i := k) (k := j) (by omega) (by omega)
                  rw [hy, Hx.out, Hdv.out] at m1 m2
                  simp only [Option.getD_some] at m1 m2
                  obtain ⟨e, hee⟩ : ∃ e, divAt C ws (leftAll C ws).toNat j = e := ⟨_, rfl⟩
                  rw [hee] at m1 m2 de
                  clear hy he hee
                  replace dx' := Later.cell dx'
                  replace dd' := Later.cell dd'
                  replace dy := Later.cell dy
                  replace de := Later.cell de
                  rcases Int.lt_trichotomy x y with hc | hc | hc
                  · have d1 : decide (x < y) = true := decide_eq_true hc
                    have d2 : decide (e < d) = false := decide_eq_false (by have := m2 hc; omega)
                    have d3 : decide (y < x) = false := decide_eq_false (by omega)
                    clear m1 m2
                    go_wp2_with fail
                    refine wp_region_later (by kernel_rfl) (by kernel_rfl) ?_
                    repeat (go_big_quiet_step (fail))
                    refine wpQuiet_nil ?_
                    intro w5 hx5
                    have hb5 := Later.out hx5
                    clear hx5 dx' dd' dy de
                    go_wp2
                    go_roundw
                    case rel => exact ⟨j + 1, by omega, by go_num, hbj.trans (hb5.mono hbj.size)⟩
                    case measure => simp [intOf]; omega
                  · subst hc
                    have d1 : decide (x < x) = false := decide_eq_false (by omega)
                    clear m1 m2
                    go_wp2_with fail
                    refine wp_region_later (by kernel_rfl) (by kernel_rfl) ?_
                    repeat (go_big_quiet_step (fail))
                    refine wpQuiet_nil ?_
                    intro w5 hx5
                    have hb5 := Later.out hx5
                    clear hx5 dx' dd' dy de
                    go_wp2
                    go_roundw
                    case rel => exact ⟨j + 1, by omega, by go_num, hbj.trans (hb5.mono hbj.size)⟩
                    case measure => simp [intOf]; omega
                  · have m3 := m1 hc
                    have d1 : decide (x < y) = false := decide_eq_false (by omega)
                    have d2 : decide (d < e) = false := decide_eq_false (by have := m1 hc; omega)
                    have d3 : decide (y < x) = true := decide_eq_true hc
                    clear m1 m2
                    go_wp2_with fail
                    refine wp_region_later (by kernel_rfl) (by kernel_rfl) ?_
                    repeat (go_big_quiet_step (fail))
                    refine wpQuiet_nil ?_
                    intro w5 hx5
                    have hb5 := Later.out hx5
                    clear hx5 dx' dd' dy de
                    go_wp2
                    go_roundw
                    case rel => exact ⟨j + 1, by omega, by go_num, hbj.trans (hb5.mono hbj.size)⟩
                    case measure => simp [intOf]; omega
                · obtain rfl : j = k := by omega
                  go_wp2
                  go_roundw
                  case rel => exact ⟨j + 1, by omega, by go_num, hbj⟩
                  case measure => simp [intOf]; omega
          · rw [if_neg hS, hlw] at w1' w2'
            have hS0 : sumL ws ≤ 0 := by omega
            obtain ⟨p, hpe⟩ : ∃ p, C / (us.length : Int) = p := ⟨_, rfl⟩
            rw [hpe] at w1' w2'
            clear w3'
            go_wp2_with fail
            clear hpe
            go_loopw [13] (fun i wi => ∃ j : Nat, j ≤ k ∧ i = .int .i64 j ∧ Below w2.heap.size w2 wi) (fun i wi => k - (intOf i).toNat)
            case atStart => exact ⟨0, by omega, rfl, hbr⟩
            case round =>
              obtain ⟨j, hj, rfl, hbj⟩ := hrel
              obtain ⟨wi, rfl⟩ : ∃ wi : World, wi = wr := ⟨_, rfl⟩
              by_cases hjk : j < k
              · have j0 : (0 : Int) ≤ (j : Int) := by omega
                have j1 : (j : Int) < (k : Int) := by omega
                have j2 : (j : Int) < (ws.length : Int) := by omega
                have j3 : (j : Int) < (us.length : Int) := by omega
                obtain ⟨by', oy, y, e1, hy, dy, _⟩ := (n6'.below hbj).at_ (k := j) (by omega)
                cases e1
                obtain ⟨be', oe, e, e2, he, de, _⟩ := (n2.below hbj).at_ (k := j) (by rw [divL_length]; omega)
                cases e2
                have he' := divL_at (coins := C) (ws := ws) (c := j) (by omega)
                rw [he] at he'
                cases he'
                have dx' := cell_below (Below.refl _ _) ((n6'.below hbj).get (k := k) Hx.out)
                have dd' := (n2.below hbj).get (k := k) Hd.out; rw [Hdv.out] at dd'
                have m1 := whole_mono Hok.out (i := j) (k := k) (by omega) (by omega)
                have m2 := whole_mono Hok.out (i := k) (k := j) (by omega) (by omega)
                rw [hy, Hx.out, Hdv.out] at m1 m2
                simp only [Option.getD_some] at m1 m2
                obtain ⟨e, hee⟩ : ∃ e, divAt C ws (leftAll C ws).toNat j = e := ⟨_, rfl⟩
                rw [hee] at m1 m2 de
                clear hy he hee
                replace dx' := Later.cell dx'
                replace dd' := Later.cell dd'
                replace dy := Later.cell dy
                replace de := Later.cell de
                rcases Int.lt_trichotomy x y with hc | hc | hc
                · have d1 : decide (x < y) = true := decide_eq_true hc
                  have d2 : decide (e < d) = false := decide_eq_false (by have := m2 hc; omega)
                  have d3 : decide (y < x) = false := decide_eq_false (by omega)
                  clear m1 m2
                  go_wp2_with fail
                  refine wp_region_later (by kernel_rfl) (by kernel_rfl) ?_
                  repeat (go_big_quiet_step (fail))
                  refine wpQuiet_nil ?_
                  intro w5 hx5
                  have hb5 := Later.out hx5
                  clear hx5 dx' dd' dy de
                  go_wp2
                  go_roundw
                  case rel => exact ⟨j + 1, by omega, by go_num, hbj.trans (hb5.mono hbj.size)⟩
                  case measure => simp [intOf]; omega
                · subst hc
                  have d1 : decide (x < x) = false := decide_eq_false (by omega)
                  clear m1 m2
                  go_wp2_with fail
                  refine wp_region_later (by kernel_rfl) (by kernel_rfl) ?_
                  repeat (go_big_quiet_step (fail))
                  refine wpQuiet_nil ?_
                  intro w5 hx5
                  have hb5 := Later.out hx5
                  clear hx5 dx' dd' dy de
                  go_wp2
                  go_roundw
                  case rel => exact ⟨j + 1, by omega, by go_num, hbj.trans (hb5.mono hbj.size)⟩
                  case measure => simp [intOf]; omega
                · have m3 := m1 hc
                  have d1 : decide (x < y) = false := decide_eq_false (by omega)
                  have d2 : decide (d < e) = false := decide_eq_false (by have := m1 hc; omega)
                  have d3 : decide (y < x) = true := decide_eq_true hc
                  clear m1 m2
                  go_wp2_with fail
                  refine wp_region_later (by kernel_rfl) (by kernel_rfl) ?_
                  repeat (go_big_quiet_step (fail))
                  refine wpQuiet_nil ?_
                  intro w5 hx5
                  have hb5 := Later.out hx5
                  clear hx5 dx' dd' dy de
                  go_wp2
                  go_roundw
                  case rel => exact ⟨j + 1, by omega, by go_num, hbj.trans (hb5.mono hbj.size)⟩
                  case measure => simp [intOf]; omega
              · obtain rfl : j = k := by omega
                go_wp2
                go_roundw
                case rel => exact ⟨j + 1, by omega, by go_num, hbj⟩
                case measure => simp [intOf]; omega
        · obtain rfl : k = ws.length := by omega
          go_wp2_with fail
          refine (wakes_any _).mono ?_; rintro e w6 ⟨rfl, hb6⟩
          go_wp2
          go_ret
          exact ⟨rfl, hw2.trans ((hbr.trans (hb6.mono hbr.size)).mono hw2.size)⟩

theorem Whole_law (coins : Int) (v : Value) (us : List Int) (w : World) (hv : NumsAt .u32 w v us) (hu : ∀ x ∈ us, 0 ≤ x ∧ x ≤ 4294967295) (hc0 : 0 ≤ coins) (hc1 : coins ≤ 4294967295) :
    Calls Try.prog 14 #[.int .u32 coins, v] w (Gives w (.bool true)) := by
  by_cases h : us.length = 0 ∨ 5 < us.length
  · exact Whole_not coins v us w hv h
  · exact Whole_ok coins v us w hv hu hc0 hc1 (by omega) (by omega)
end Go.Proofs.Ytobeffjdfhkjeaa
