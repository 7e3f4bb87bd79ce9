import Derived.Test.YtobeffjdfhkjeaaTr
import Derived.Test.YtobeffjdfhkjeaaPp
import Derived.Test.YtobeffjdfhkjeaaGa
set_option linter.unusedVariables false
set_option linter.unusedSimpArgs false
namespace Go.Proofs.Ytobeffjdfhkjeaa
open Go Go.Proofs Go.RowKit

theorem ready_iff {n : Int} {ss : List Strat} : readyB n ss = true ↔ thinB ss = true ∧ faultI n ss = 0 := by
  simp [readyB]

theorem Kept_not (n : Int) (v u : Value) (ss : List Strat) (w : World) (hv : StrataAt w v ss) (ht : readyB n ss = false) :
    Calls Try.prog 5 #[.agg #[.int .i64 n, v], u] w (Gives w (.bool true)) := by
  have hb0 : Below w.heap.size w (w.alloc (.cells #[.int .i64 n, v] 24)) := (Below.refl _ _).alloc (Nat.le_refl _) _
  obtain ⟨A, c, rfl, hc, hm⟩ := hv.form
  go_enter Try.func5, Try.ntmps5
  go_wp2_with (first
    | (go_at_call 26; refine (Gives.to ht (ready_any n _ ss _ (hv.below hb0))).mono ?_; rintro e w1 ⟨rfl, hb1⟩)
    | (go_at_call 18; refine (wakes_any _).mono ?_; rintro e w2 ⟨rfl, hb2⟩))
  go_ret
  exact ⟨rfl, hb0.trans ((hb1.trans (hb2.mono hb1.size)).mono hb0.size)⟩

set_option maxRecDepth 100000 in
set_option maxHeartbeats 3200000 in
theorem Kept_ready (m : Nat) (v u : Value) (ss : List Strat) (ws : List Int) (w : World) (hv : StrataAt w v ss) (hu : NumsAt .u16 w u ws) (hw : WordsOk ws) (hr : readyB m ss = true) :
    Calls Try.prog 5 #[.agg #[.int .i64 m, v], u] w (Gives w (.bool true)) := by
  have hb0 : Below w.heap.size w (w.alloc (.cells #[.int .i64 m, v] 24)) := (Below.refl _ _).alloc (Nat.le_refl _) _
  obtain ⟨A, c, rfl, hc, hm⟩ := hv.form
  obtain ⟨ht, hf⟩ := ready_iff.1 hr
  obtain ⟨tl, tl9⟩ := thin_len ht
  have Htl := Lib.hid (fun (j : Nat) (s : Strat) (h : ss[j]? = some s) => Nat.le_trans (tl9 j s h) (by decide : 9 ≤ 1000))
  clear tl9 ht
  have hs8 := (fault_zero hf).1
  have hn5 := (fault_zero hf).2.2.1
  have hn1 := (fault_zero hf).2.1
  have hm5 : m ≤ 5 := by omega
  have Hf := Lib.hid hf
  clear hf
  go_enter Try.func5, Try.ntmps5
  have g0 : (w.alloc (.cells #[.int .i64 m, .slice A ss.length c] 24)).cell? ⟨w.heap.size, 0, none⟩ = some (.int .i64 m) := by simp [go_sem]
  have g1 : (w.alloc (.cells #[.int .i64 m, .slice A ss.length c] 24)).cell? ⟨w.heap.size, 1, none⟩ = some (.slice A ss.length c) := by simp [go_sem]
  go_wp2_with fail
  refine (Gives.to hr (ready_any m _ ss _ (hv.below hb0))).mono ?_; rintro e w1 ⟨rfl, hb1⟩
  have hw1 := hb0.trans (hb1.mono hb0.size)
  replace g0 := cell_below hb1 g0
  replace g1 := cell_below hb1 g1
  go_wp2_with fail
  refine (Truly_any m _ u ss ws _ (hv.below hw1) (hu.below hw1) hw Hf.out).mono ?_; rintro e w2 ⟨ll, A2, c2, us2, htr, rfl, o2, q2, hb2⟩
  have hw2 := hw1.trans (hb2.mono hw1.size)
  replace g0 := cell_below hb2 g0
  replace g1 := cell_below hb2 g1
  have r2 := rows_of_own o2 q2
  have hl1 : listsB m ss.length ll = true := by simp only [truthB, Bool.and_eq_true] at htr; exact htr.1
  have hF := fit_of Hf.out hl1
  have hlen := Nat.le_of_eq hF.len
  have hlen' := Nat.le_of_eq hF.len.symm
  have Hrow := Lib.hid fun (j : Nat) (l : List Int) (h : ll[j]? = some l) => (by have := (rowB_iff.1 (hF.row j l h)).1; omega : l.length ≤ 1000)
  have HF := Lib.hid hF
  have Htr := Lib.hid htr
  clear hl1 hF htr
  go_wp2_with fail
  refine (Pool_any m _ ss _ (hv.below hw2) (by omega) Htl.out).mono ?_; rintro e w3 ⟨v3, rfl, s3, hb3⟩
  have hw3 := hw2.trans (hb3.mono hw2.size)
  replace g0 := cell_below hb3 g0
  replace g1 := cell_below hb3 g1
  replace r2 := r2.below hb3
  obtain ⟨A3, c3, rfl, hc3, hm3⟩ := s3.form
  go_wp2_with fail
  refine (rows_any _ ll _ r2 (by omega) Hrow.out).mono ?_; rintro e w4 ⟨A4, c4, us4, rfl, o4, q4, hb4⟩
  have hw4 := hw3.trans (hb4.mono hw3.size)
  replace g0 := cell_below hb4 g0
  replace g1 := cell_below hb4 g1
  replace r2 := r2.below hb4
  have r4 := rows_of_own o4 q4
  have s34 := s3.below hb4
  go_wp2_with fail
  refine (Get_ok m _ _ ss ll _ s34 r4 Hf.out Htr.out).mono ?_; rintro e w5 ⟨A5, c5, rfl, o5, hb5⟩
  have hw5 := hw4.trans (hb5.mono hw4.size)
  replace g0 := cell_below hb5 g0
  replace g1 := cell_below hb5 g1
  replace r2 := r2.below hb5
  have n5 := nums_of_own o5
  have el : (getsL m ss ll).length = m := by simp [getsL]
  rw [el] at n5 ⊢
  clear el
  have hv5 := hv.below hw5
  go_wp2_with fail
  clear hr
  have hfl := fund_left Hf.out Htr.out ss.length (Nat.le_refl _)
  have hfu : fundI m ss ll = fK m ss ll ss.length := rfl
  rw [← hfu] at hfl
  clear hfu
  have hcoin := HF.out.coins
  have Hcoin := Lib.hid hcoin
  have hend : (sumL (getsL m ss ll) + fundI m ss ll == sK ss ss.length) = true := beq_iff_eq.2 (gets_fund m ss ll)
  have hgok := gets_ok HF.out hm5
  have hmb0 := mostI'_bd (ll := ll) Hf.out ss.length
  have hsb0 := sK_bd HF.out ss.length
  have hgs := hgok m (by simp [getsL])
  rw [List.take_of_length_le (by simp [getsL])] at hgs
  clear hcoin
  go_loop [9, 10, 11] (fun x y i => ∃ k : Nat, k ≤ ss.length ∧ i = .int .i64 k ∧ x = .int .i64 (sK ss k) ∧ y = .int .i64 (mostI' m ss ll k)) (fun x y i => ss.length - (intOf i).toNat)
  case atStart => exact ⟨0, by omega, rfl, rfl, rfl⟩
  case round =>
    obtain ⟨k, hk, rfl, rfl, rfl⟩ := hrel
    have hbd := sK_bd HF.out k
    have hmb := mostI'_bd (ll := ll) Hf.out k
    by_cases hlt : k < ss.length
    · obtain ⟨b, o, s, y, rfl, hs, hy, e0, e1, e2, e3, hby⟩ := hv5.at_ hlt
      obtain ⟨b2, o2, l, x, rfl, hl, dl, hx, hbx⟩ := r2.at_ (k := k) (by omega)
      have hco := Hcoin.out k
      rw [hs, Option.getD_some] at hco
      have Hst : Hid (sK ss (k + 1) = sK ss k + s.coins) := by
        show sK ss (k + 1) = _
        rw [sK, hs, Option.getD_some]
      have Hmt : Hid (mostI' m ss ll (k + 1) = mostI' m ss ll k + if 0 < sumL l then (m : Int) - 1 else s.coins) := by
        show mostI' m ss ll (k + 1) = _
        rw [mostI', hs, hl, Option.getD_some, Option.getD_some]
      have hok := rowB_ok HF.out.n5 (HF.out.row k l hl)
      clear hs hl
      have i1 : (k : Int) < (ll.length : Int) := by omega
      go_wp2_with (go_at_call 30; refine (Sum_same _ l _ hx hok).mono ?_; rintro e w6 ⟨rfl, rfl⟩)
      · have q : 0 < sumL l := by assumption
        go_round
        case rel => exact ⟨k + 1, by omega, by go_num, by rw [Hst.out], by rw [Hmt.out, if_pos q]⟩
        case measure => simp [intOf]; omega
      · have q : sumL l ≤ 0 := by assumption
        go_round
        case rel => exact ⟨k + 1, by omega, by go_num, by rw [Hst.out], by rw [Hmt.out, if_neg (by omega)]⟩
        case measure => simp [intOf]; omega
    · obtain rfl : k = ss.length := by omega
      go_wp2
      go_loop [12] (fun i => ∃ j : Nat, j ≤ m ∧ i = .int .i64 j) (fun i => m - (intOf i).toNat)
      case atStart => exact ⟨0, by omega, rfl⟩
      case round =>
        obtain ⟨j, hj, rfl⟩ := hrel
        by_cases hlj : j < m
        · have hlj' : (j : Int) < (m : Int) := by omega
          have hel : (getsL m ss ll).length = m := by simp [getsL]
          obtain ⟨b3, o3, z, rfl, hz, dz, hbz⟩ := n5.at_ (k := j) (by omega)
          have hz0 : 0 ≤ z := by
            rw [gets_at hlj] at hz
            cases hz
            exact (HF.out.gK j ss.length).1
          clear hz hel
          go_wp2
          go_round
          case rel => exact ⟨j + 1, by omega, by go_num⟩
          case measure => simp [intOf]; omega
        · obtain rfl : j = m := by omega
          go_wp2_with (first
            | (go_at_call 30; refine (Sum_same _ (getsL j ss ll) _ n5 hgok).mono ?_; rintro e w6 ⟨rfl, rfl⟩)
            | (go_at_call 18; refine (wakes_any _).mono ?_; rintro e w10 ⟨rfl, hb10⟩))
          go_ret
          exact ⟨rfl, hw5.trans (hb10.mono hw5.size)⟩

theorem Kept_law (n : Int) (v u : Value) (ss : List Strat) (ws : List Int) (w : World) (hv : StrataAt w v ss) (hu : NumsAt .u16 w u ws) (hw : WordsOk ws) :
    Calls Try.prog 5 #[.agg #[.int .i64 n, v], u] w (Gives w (.bool true)) := by
  cases hr : readyB n ss with
  | false => exact Kept_not n v u ss w hv hr
  | true =>
    have h1 := (fault_zero (ready_iff.1 hr).2).2.1
    obtain ⟨m, rfl⟩ : ∃ m : Nat, n = m := ⟨n.toNat, by omega⟩
    exact Kept_ready m v u ss ws w hv hu hw hr
end Go.Proofs.Ytobeffjdfhkjeaa
