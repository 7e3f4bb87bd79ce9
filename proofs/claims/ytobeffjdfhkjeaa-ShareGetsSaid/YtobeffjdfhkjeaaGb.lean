import Derived.Test.YtobeffjdfhkjeaaGa
import Derived.Test.YtobeffjdfhkjeaaPK
set_option linter.unusedVariables false
set_option linter.unusedSimpArgs false
namespace Go.Proofs.Ytobeffjdfhkjeaa
open Go Go.Proofs Go.RowKit

set_option maxRecDepth 100000 in
set_option maxHeartbeats 3200000 in
theorem Gets_true (m : Nat) (v u : Value) (ss : List Strat) (ll : List (List Int)) (w : World) (hv : StrataAt w v ss) (hu : RowsAt w u ll) (ht : thinB ss = true) (hs : shortB ll = true) (hf : faultI m ss = 0) (hl : truthB m ss ll = true) :
    Calls Try.prog 3 #[.agg #[.int .i64 m, v], u] w (Gives w (.bool true)) := by
  have hb0 : Below w.heap.size w (w.alloc (.cells #[.int .i64 m, v] 24)) := (Below.refl _ _).alloc (Nat.le_refl _) _
  obtain ⟨A, c, rfl, hc, hm⟩ := hv.form
  obtain ⟨B, d, rfl, hd, hmd⟩ := hu.form
  obtain ⟨tl, tl9⟩ := thin_len ht
  obtain ⟨sl, sl9⟩ := short_len hs
  have Htl := Lib.hid (fun (j : Nat) (s : Strat) (h : ss[j]? = some s) => Nat.le_trans (tl9 j s h) (by decide : 9 ≤ 1000))
  have Hsl := Lib.hid (fun (j : Nat) (l : List Int) (h : ll[j]? = some l) => Nat.le_trans (sl9 j l h) (by decide : 9 ≤ 1000))
  clear tl9 sl9
  have hn5 := (fault_zero hf).2.2.1
  have Hval := Lib.hid (fault_zero hf).2.2.2
  have hF : Fit m ss ll := fit_of hf (by simp only [truthB, Bool.and_eq_true] at hl; exact hl.1)
  have hm5 : m ≤ 5 := by omega
  have hgl : (getsL m ss ll).length = m := by simp [getsL]
  have hs8 := hF.s8
  have hlen : ss.length ≤ ll.length := by have := hF.len; omega
  have hget0 : ∀ j, (getsL m ss ll)[j]? = if j < m then some (gK ss ll j ss.length) else none := fun j => by
    by_cases h : j < m
    · simp [getsL, h]
    · simp [getsL, h]
  have HF := Lib.hid hF
  clear hF
  go_enter Try.func3, Try.ntmps3
  have g0 : (w.alloc (.cells #[.int .i64 m, .slice A ss.length c] 24)).cell? ⟨w.heap.size, 0, none⟩ = some (.int .i64 m) := by simp [go_sem]
  have g1 : (w.alloc (.cells #[.int .i64 m, .slice A ss.length c] 24)).cell? ⟨w.heap.size, 1, none⟩ = some (.slice A ss.length c) := by simp [go_sem]
  go_wp2_with fail
  refine (Gives.to ht (thin_any m _ ss _ (hv.below hb0))).mono ?_; rintro e w1 ⟨rfl, hb1⟩
  have hw1 := hb0.trans (hb1.mono hb0.size)
  replace g0 := cell_below hb1 g0
  replace g1 := cell_below hb1 g1
  go_wp2_with fail
  refine (Gives.to hs (short_any _ ll _ (hu.below hw1))).mono ?_; rintro e w2 ⟨rfl, hb2⟩
  have hw2 := hw1.trans (hb2.mono hw1.size)
  replace g0 := cell_below hb2 g0
  replace g1 := cell_below hb2 g1
  go_wp2_with fail
  refine (Pool_any m _ ss _ (hv.below hw2) (by omega) Htl.out).mono ?_; rintro e w3 ⟨v3, rfl, s3, hb3⟩
  have hw3 := hw2.trans (hb3.mono hw2.size)
  replace g0 := cell_below hb3 g0
  replace g1 := cell_below hb3 g1
  go_wp2_with fail
  refine (checkPool_any m _ ss _ s3).mono ?_; rintro e w4 ⟨rfl, hb4⟩
  have hw4 := hw3.trans (hb4.mono hw3.size)
  replace g0 := cell_below hb4 g0
  replace g1 := cell_below hb4 g1
  go_wp2_with fail
  refine (Pool_any m _ ss _ (hv.below hw4) (by omega) Htl.out).mono ?_; rintro e w5 ⟨v5, rfl, s5, hb5⟩
  have hw5 := hw4.trans (hb5.mono hw4.size)
  replace g0 := cell_below hb5 g0
  replace g1 := cell_below hb5 g1
  obtain ⟨A5, c5, rfl, hc5, hm5'⟩ := s5.form
  go_wp2_with fail
  refine (rows_any _ ll _ (hu.below hw5) (by omega) Hsl.out).mono ?_; rintro e w6 ⟨A6, c6, us6, rfl, o6, q6, hb6⟩
  have hw6 := hw5.trans (hb6.mono hw5.size)
  replace g0 := cell_below hb6 g0
  replace g1 := cell_below hb6 g1
  have r6 := rows_of_own o6 q6
  have s56 := s5.below hb6
  have hget := Get_ok m _ _ ss ll _ s56 r6 hf hl
  go_wp2_with fail
  refine hget.mono ?_; rintro e w7 ⟨A7, c7, rfl, o7, hb7⟩
  have n7 := nums_of_own o7
  rw [hgl] at *
  have hw7 := hw6.trans (hb7.mono hw6.size)
  replace g0 := cell_below hb7 g0
  replace g1 := cell_below hb7 g1
  clear hget s56 r6 o6 q6 s5 s3 o7
  go_wp2_with fail
  refine (fault_any m _ ss _ (hv.below hw7)).mono ?_; rintro e w8 ⟨rfl, hb8⟩
  have hw8 := hw7.trans (hb8.mono hw7.size)
  replace g0 := cell_below hb8 g0
  replace g1 := cell_below hb8 g1
  replace n7 := n7.below hb8
  rw [hf]
  go_wp2_with fail
  refine (Gives.to hl (IsTruth_any m _ _ ss ll _ (hv.below hw8) (hu.below hw8) hn5 Hval.out)).mono ?_; rintro e w9 ⟨rfl, hb9⟩
  have hw9 := hw8.trans (hb9.mono hw8.size)
  replace g0 := cell_below hb9 g0
  replace g1 := cell_below hb9 g1
  replace n7 := n7.below hb9
  clear hf hl
  go_wp2_with fail
  have hv9 := hv.below hw9
  have hu9 := hu.below hw9
  have Hg := Lib.hid hget0
  clear hget0 Htl Hsl
  go_loop [10, 11] (fun x i => ∃ k : Nat, k ≤ ss.length ∧ i = .int .i64 k ∧ x = .int .i64 (sK ss k)) (fun x i => ss.length - (intOf i).toNat)
  case atStart => exact ⟨0, by omega, rfl, rfl⟩
  case round =>
    obtain ⟨k, hk, rfl, rfl⟩ := hrel
    have hbd := sK_bd HF.out k
    by_cases hlt : k < ss.length
    · obtain ⟨b, o, s, y, rfl, hs, hy, e0, e1, e2, e3, hby⟩ := hv9.at_ hlt
      have hco := HF.out.coins k
      rw [hs, Option.getD_some] at hco
      have Hst : Hid (sK ss (k + 1) = sK ss k + s.coins) := by
        show sK ss (k + 1) = _
        rw [sK, hs, Option.getD_some]
      clear hs
      go_wp2
      go_round
      case rel => exact ⟨k + 1, by omega, by go_num, by rw [Hst.out]⟩
      case measure => simp [intOf]; omega
    · obtain rfl : k = ss.length := by omega
      go_wp2
      have hG : w.heap.size < w9.heap.size := by have := World.block_lt_of_cell? w9 _ g0; simpa using this
      go_loopw [10, 12] (fun x i wr => ∃ j : Nat, j ≤ m ∧ i = .int .i64 j ∧ x = .int .i64 (sK ss ss.length - tK ss ll ss.length j) ∧ Below w9.heap.size w9 wr) (fun x i wr => m - (intOf i).toNat)
      case atStart => exact ⟨0, by omega, rfl, by simp [tK], Below.refl _ _⟩
      case round =>
        obtain ⟨j, hj, rfl, rfl, hbr⟩ := hrel
        obtain ⟨wo, rfl⟩ : ∃ wo : World, wo = wr := ⟨_, rfl⟩
        have htb := tK_bd HF.out j
        by_cases hlj : j < m
        · have hlj' : (j : Int) < (m : Int) := by omega
          go_wp2
          go_loopw [13, 14] (fun x i wi => ∃ k : Nat, k ≤ ss.length ∧ i = .int .i64 k ∧ x = .int .i64 (gK ss ll j k) ∧ Below wo.heap.size wo wi) (fun x i wi => ss.length - (intOf i).toNat)
          case atStart => exact ⟨0, by omega, rfl, rfl, Below.refl _ _⟩
          case round =>
            obtain ⟨k, hk, rfl, rfl, hbi⟩ := hrel
            obtain ⟨wi, rfl⟩ : ∃ wi : World, wi = wr := ⟨_, rfl⟩
            have hb9 : Below w9.heap.size w9 wi := hbr.trans (hbi.mono hbr.size)
            replace g0 := cell_below hb9 g0
            replace g1 := cell_below hb9 g1
            have hgk := HF.out.gK j k
            by_cases hlk : k < ss.length
            · obtain ⟨b, o, s, y, rfl, hs, hy, e0, e1, e2, e3, hby⟩ := (hv9.below hb9).at_ hlk
              obtain ⟨b2, o2, l, x, rfl, hl, dl, hx, hbx⟩ := (hu9.below hb9).at_ (k := k) (by omega)
              have q1 := HF.out.row k l hl
              have hok := rowB_ok hn5 q1
              have hlm := (rowB_iff.1 q1).1
              have hco := HF.out.coins k
              have hsum := HF.out.sum k
              have hel := HF.out.elem k j
              have hgi := HF.out.gI k j
              have hgs : gI ss ll k j = getI s.coins (l[j]?.getD 0) (sumL l) := by simp [gI, hs, hl]
              obtain ⟨z, hz⟩ : ∃ z, l[j]?.getD 0 = z := ⟨_, rfl⟩
              rw [hgs] at hgi
              rw [hs, Option.getD_some] at hco
              rw [hl, Option.getD_some] at hsum hel
              have hjl : j < l.length := by omega
              have hGz : ∀ (W : World) (y x : Value), NumsAt .i64 W x l → Calls Try.prog 25 #[.agg #[.int .i64 s.coins, .int .i64 s.lo, .int .i64 s.hi, y], x, .int .i64 j] W (Gives W (.int .i64 (getI s.coins z (sumL l)))) := fun W y x hx => by
                have := Gets_any s y x l j W hx hjl hok hsum hco.1 hco.2 hel.1 (by omega)
                rwa [hz] at this
              rw [hz] at hgi hgs
              have Hst : Hid (gK ss ll j (k + 1) = gK ss ll j k + getI s.coins z (sumL l)) := by
                show gK ss ll j (k + 1) = _
                rw [gK, hgs]
              clear hs hl q1 hgs hz hel
              obtain ⟨C, e, rfl, hC, hC'⟩ := hy.form
              obtain ⟨D, f, rfl, hD, hD'⟩ := hx.form
              have i1 : (k : Int) < (ll.length : Int) := by omega
              have f0 := Later.cell e0
              have f1 := Later.cell e1
              have f2 := Later.cell e2
              have f3 := Later.cell e3
              have f4 := Later.cell dl
              have f5 := Later.cell g1
              go_wp2_with fail
              refine wp_region_later (by kernel_rfl) (by kernel_rfl) ?_
              repeat (go_big_quiet_step ((go_at_call 25; exact Later.call (hGz _ _ _ (hx.below (Subtype.property _))))))
              refine wpQuiet_nil ?_
              intro w2 hx2
              have hb2 := Later.out hx2
              clear hx2 f0 f1 f2 f3 f4 f5
              go_wp2
              go_roundw
              case rel => exact ⟨k + 1, by omega, by go_num, by rw [Hst.out], hbi.trans (hb2.mono hbi.size)⟩
              case measure => simp [intOf]; omega
            · obtain rfl : k = ss.length := by omega
              have n7i := n7.below hb9
              obtain ⟨b3, o3, z, rfl, hz, dz, hbz⟩ := n7i.at_ (k := j) (by simp [getsL]; exact hlj)
              obtain rfl : z = gK ss ll j ss.length := by
                have e := Hg.out j
                rw [hz, if_pos hlj] at e
                exact Option.some.inj e
              have Ht : Hid (tK ss ll ss.length (j + 1) = tK ss ll ss.length j + gK ss ll j ss.length) := rfl
              have htb' := tK_bd HF.out (j + 1)
              rw [Ht.out] at htb'
              clear hz
              go_wp2
              go_roundw
              case rel => exact ⟨j + 1, by omega, by go_num, by rw [Ht.out]; go_num, hbr.trans (hbi.mono hbr.size)⟩
              case measure => simp [intOf]; omega
        · obtain rfl : j = m := by omega
          have hfe : fundI j ss ll = sK ss ss.length - tK ss ll ss.length j := fK_eq _ _ _ _
          rw [hfe]
          go_wp2_with (go_at_call 18; refine (wakes_any _).mono ?_; rintro e w10 ⟨rfl, hb10⟩)
          go_ret
          have hw0 := hw9.trans (hbr.mono hw9.size)
          exact ⟨rfl, hw0.trans (hb10.mono hw0.size)⟩

theorem Gets_law (n : Int) (v u : Value) (ss : List Strat) (ll : List (List Int)) (w : World) (hv : StrataAt w v ss) (hu : RowsAt w u ll) :
    Calls Try.prog 3 #[.agg #[.int .i64 n, v], u] w (Gives w (.bool true)) := by
  cases ht : thinB ss with
  | false => exact Gets_thin n v u ss ll w hv hu ht
  | true =>
    cases hs : shortB ll with
    | false => exact Gets_short n v u ss ll w hv hu ht hs
    | true =>
      by_cases hf : faultI n ss = 0
      · cases hl : truthB n ss ll with
        | false => exact Gets_range n v u ss ll w hv hu ht hs hf hl
        | true =>
          obtain ⟨h1, h2⟩ := (fault_zero hf).2
          obtain ⟨m, rfl⟩ : ∃ m : Nat, n = m := ⟨n.toNat, by omega⟩
          exact Gets_true m v u ss ll w hv hu ht hs hf hl
      · exact Gets_fault n v u ss ll w hv hu ht hs (by simpa using hf)
end Go.Proofs.Ytobeffjdfhkjeaa
