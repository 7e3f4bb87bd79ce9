import Derived.Test.YtobeffjdfhkjeaaM
set_option linter.unusedVariables false
set_option linter.unusedSimpArgs false
namespace Go.Proofs.Ytobeffjdfhkjeaa
open Go Go.Proofs Go.RowKit

set_option maxRecDepth 100000 in
set_option maxHeartbeats 3200000 in
theorem Get_ok (m : Nat) (v u : Value) (ss : List Strat) (ll : List (List Int)) (w : World) (hv : StrataAt w v ss) (hu : RowsAt w u ll) (hf : faultI m ss = 0) (hl : truthB m ss ll = true) :
    Calls Try.prog 21 #[.agg #[.int .i64 m, v], u] w (GivesGet w (getsL m ss ll) (fundI m ss ll)) := by
  have hb0 : Below w.heap.size w (w.alloc (.cells #[.int .i64 m, v] 33)) := (Below.refl _ _).alloc (Nat.le_refl _) _
  obtain ⟨A, c, rfl, hc, hm⟩ := hv.form
  obtain ⟨A', c', rfl, hc', hm'⟩ := hu.form
  obtain ⟨i0, hi0, hz0, hz1, hz2⟩ := info_parts info3
  have hf0 : (faultI m ss != 0) = false := by simp [hf]
  simp only [truthB, Bool.and_eq_true] at hl
  obtain ⟨h1, hp⟩ := hl
  have hF := fit_of hf h1
  have hm5 : m ≤ 5 := by have := hF.n5; omega
  have hm1 : 1 ≤ m := by have := hF.n0; omega
  have hs8 := hF.s8
  have hlen : ss.length ≤ ll.length := by have := hF.len; omega
  have HR : Hid (refusedL ss ll ss.length = []) := refusedL_nil hp _ (by omega)
  have HF := Lib.hid hF
  clear hf hp hF
  go_enter Try.func21, Try.ntmps21
  go_wp2_with (first
    | (go_at_call 19; refine (checkPool_any _ _ ss _ (hv.below hb0)).mono ?_; rintro e w1 ⟨rfl, hb1⟩; have g0 : w1.cell? ⟨w.heap.size, 0, none⟩ = some (.int .i64 m) := cell_below hb1 (by simp [go_sem]); have g1 : w1.cell? ⟨w.heap.size, 1, none⟩ = some (.slice A ss.length c) := cell_below hb1 (by simp [go_sem]); have hw1 := hb0.trans (hb1.mono hb0.size))
    | (go_at_call 56; refine (Gives.to h1 (lists_any m _ _ ss ll _ (hv.below hw1) (hu.below hw1))).mono ?_; rintro e w2 ⟨rfl, hb2⟩; have hw2 := hw1.trans (hb2.mono hw1.size); have k0 := cell_below hb2 g0; have k1 := cell_below hb2 g1)
    | (go_at_call 57; refine (refused_any m _ _ ss ll _ (hv.below hw2) (hu.below hw2) HF.out.n5 hlen HF.out.s8 HF.out.val HF.out.row).mono ?_; rw [HR.out]; rintro e w3 ⟨A3, c3, rfl, ho3, hb3⟩; have hw3 := hw2.trans (hb3.mono hw2.size); have m0 := cell_below hb3 k0; have m1 := cell_below hb3 k1; clear g0 g1 k0 k1)
    | (at_make; refine wpList_make_full _ rfl _ _ 35 rfl w3.heap.size 3 i0 _ 1 Try.underlying35 hi0 hz0 hz1 _ _ _ _ m rfl rfl rfl rfl (by rw [hz2]; omega) (by simp [maxLen]; omega) (Nat.le_refl _) ?_; intro w4 hown4 hg4; have hb4 : Below w3.heap.size w3 w4 := (Below.refl _ _).grown hg4 (Nat.le_refl _) (by simp); have hw4 := hw3.trans (hb4.mono hw3.size); have n1 := cell_below hb4 m1; clear m0 m1))
  have hG : w.heap.size ≤ w3.heap.size := hw3.size
  have hG4 : w3.heap.size < w4.heap.size := by
    rcases hown4.2 with ⟨h, _⟩ | ⟨g, cap, cur, h, _, hg, _⟩
    · cases h
    · cases h
      exact (Array.getElem?_eq_some_iff.1 hg).1
  have hmade : (madeCells (Value.int .i64 0).cells (m * 1)).toList = (midL m ss ll 0 0).map (.int .i64) := by
    rw [midL_zero, Nat.mul_one, List.map_replicate]
    exact toList_madeCells_one _ _
  rw [hmade] at hown4
  clear hmade n1 ho3 hb3 hb4 hg4 hb1 hb2 hw1 hw2 hb0 h1 hf0
  go_loopw [5, 35] (fun x i wr => ∃ k : Nat, k ≤ ss.length ∧ i = .int .i64 k ∧ x = .int .i64 (fK m ss ll k) ∧ Below w.heap.size w wr ∧ w3.heap.size < wr.heap.size ∧
      wr.ownsRow w3.heap.size 3 1 (.slice (some ⟨w3.heap.size, 0, none⟩) m m) m ((midL m ss ll k 0).map (.int .i64))) (fun x i wr => ss.length - (intOf i).toNat)
  case atStart => exact ⟨0, by omega, rfl, rfl, hw4, hG4, hown4⟩
  case round =>
    obtain ⟨k, hk, rfl, rfl, hb, hGr, hown⟩ := hrel
    obtain ⟨wo, rfl⟩ : ∃ wo : World, wo = wr := ⟨_, rfl⟩
    have hfk := HF.out.fK hm5 k
    by_cases hlt : k < ss.length
    · obtain ⟨b, o, l, x, rfl, hl, dl, hx, hbx⟩ := hu.at_ (k := k) (by omega)
      obtain ⟨b', o', s, y, rfl, hs, hy, e0, e1, e2, e3, hby⟩ := hv.at_ hlt
      have q1 := HF.out.row k l hl
      have q2 := stratB_iff.1 (HF.out.val k s hs)
      have hok := rowB_ok HF.out.n5 q1
      have hlm := (rowB_iff.1 q1).1
      have hl1 : l.length ≤ m := by omega
      have hl2 : m ≤ l.length := by omega
      have hco := q2.1
      have hsum := HF.out.sum k
      rw [hl] at hsum
      simp only [Option.getD_some] at hsum
      have Hfk : Hid (fK m ss ll (k + 1) = fK m ss ll k + s.coins - cK ss ll k m) := by
        show fK m ss ll (k + 1) = _
        rw [fK, hs]
        rfl
      have Hg : Hid (∀ (j : Nat) (z : Int), l[j]? = some z → gI ss ll k j = getI s.coins z (sumL l)) := by
        intro j z hz
        rw [gI, hs, hl]
        simp [hz]
      have Hx0 : Hid (∀ (j : Nat) (z : Int), l[j]? = some z → 0 ≤ z ∧ z ≤ 400) := (rowB_iff.1 q1).2
      clear hl hs q1 q2 hlm
      obtain ⟨B, C, rfl, hC, hC'⟩ := hy.form
      obtain ⟨D, E, rfl, hE, hE'⟩ := hx.form
      have i0 : (0 : Int) ≤ (k : Int) := by omega
      have i1 : (k : Int) < (ll.length : Int) := by omega
      replace e0 := cell_below hb e0
      replace e1 := cell_below hb e1
      replace e2 := cell_below hb e2
      replace e3 := cell_below hb e3
      have dlo := cell_below hb dl
      have hk8 : (k : Int) < 8 := by omega
      have hbx1 : b < wo.heap.size := by have := hb.size; omega
      have hby1 : b' < wo.heap.size := by have := hb.size; omega
      go_wp2_with fail
      have hba : Below w.heap.size w (wo.alloc (.cells #[.int .i64 s.coins, .int .i64 s.lo, .int .i64 s.hi, .slice B s.seen.length C] 86)) := hb.alloc hb.size _
      go_loopw [5, 49] (fun x i wi => ∃ j : Nat, j ≤ l.length ∧ i = .int .i64 j ∧ x = .int .i64 (fK m ss ll k + s.coins - cK ss ll k j) ∧ Below w.heap.size w wi ∧ wo.heap.size < wi.heap.size ∧
          wi.cell? ⟨wo.heap.size, 0, none⟩ = some (.int .i64 s.coins) ∧ wi.ownsRow w3.heap.size 3 1 (.slice (some ⟨w3.heap.size, 0, none⟩) m m) m ((midL m ss ll k j).map (.int .i64))) (fun x i wi => l.length - (intOf i).toNat)
      case atStart => exact ⟨0, by omega, rfl, by simp [cK], hba, by simp, by simp, hown.alloc _⟩
      case round =>
        obtain ⟨j, hj, rfl, rfl, hbi, hoi, f0, hown1⟩ := hrel
        obtain ⟨wi, rfl⟩ : ∃ wi : World, wi = wr := ⟨_, rfl⟩
        have hck := HF.out.cK k j
        by_cases hlt1 : j < l.length
        · obtain ⟨b2, o2, z, rfl, hz, dz, hbz⟩ := hx.at_ hlt1
          have hgk := HF.out.gK j k
          have hz0 := Hx0.out j z hz
          have hgg := Hg.out j z hz
          have hgb := HF.out.gI k j
          rw [hgg] at hgb
          have Hgg := Lib.hid hgg
          have Hcell : Hid ((midL m ss ll k j)[j]? = some (gK ss ll j k)) := midL_at (by omega)
          clear hgg hz
          replace dz := cell_below hbi dz
          have dli := cell_below hbi dl
          have hxi := hx.below hbi
          have hjm : (j : Int) < (m : Int) := by omega
          have g0 := Later.cell f0
          have gl := Later.cell dli
          go_wp2_with fail
          refine wp_region_later (by kernel_rfl) (by kernel_rfl) ?_
          repeat (go_big_quiet_step (first
            | (go_at_call 59; exact Later.call (sum_any _ _ _ (hxi.below (Subtype.property _)) hok))
            | (go_at_call 58; exact Later.call (Same.gives (part_same _ _ _ _ hsum hco.1 hco.2 hz0.1 (by omega))))))
          refine wpQuiet_nil ?_
          intro w2 hx2
          have hb2 := Later.out hx2
          clear hx2 g0 gl
          have hown2 := own_below hown1 hb2
          have r1 : w2.cell? ⟨w3.heap.size, j, none⟩ = some (.int .i64 (gK ss ll j k)) := by
            rw [hown2.cellAt j (by omega), List.getElem?_map, Hcell.out]
            rfl
          have r2 := hown2.frozenAt j
          have hst := hown2.stored j (.int .i64 (gK ss ll j k + getI s.coins z (sumL l)))
          have Hst := Lib.hid hst
          clear hst
          go_wp2
          have hb3 : Below w.heap.size w (w2.setCell ⟨w3.heap.size, j, none⟩ (.int .i64 (gK ss ll j k + getI s.coins z (sumL l)))) := (hbi.trans (hb2.mono hbi.size)).setCell (p := ⟨w3.heap.size, j, none⟩) hG _
          have hf3 : (w2.setCell ⟨w3.heap.size, j, none⟩ (.int .i64 (gK ss ll j k + getI s.coins z (sumL l)))).cell? ⟨wo.heap.size, 0, none⟩ = some (.int .i64 s.coins) := by
            rw [World.cell?_setCell_other _ _ _ _ (by intro e; have q := congrArg Addr.block e; simp only at q; omega)]
            exact cell_below hb2 f0
          go_roundw
          case rel =>
            refine ⟨j + 1, by omega, by go_num, ?_, hb3, ?_, hf3, ?_⟩
            · have e : cK ss ll k (j + 1) = cK ss ll k j + getI s.coins z (sumL l) := by rw [cK, Hgg.out]
              rw [e]
              go_num
            · have := hb2.size
              simp
              omega
            · have := Hst.out.1
              rw [← midL_set, Hgg.out, List.map_set]
              exact this
          case measure => simp [intOf]; omega
        · obtain rfl : j = l.length := by omega
          go_wp2
          go_roundw
          case rel =>
            refine ⟨k + 1, by omega, by go_num, ?_, hbi, by omega, ?_⟩
            · have e : l.length = m := by omega
              rw [Hfk.out, e]
            · have e : l.length = m := by omega
              rw [e, midL_next] at hown1
              exact hown1
          case measure => simp [intOf]; omega
    · obtain rfl : k = ss.length := by omega
      go_wp2
      go_ret3
      rw [midL_end] at hown
      have e : (getsL m ss ll).length = m := by simp [getsL]
      refine ⟨some ⟨w3.heap.size, 0, none⟩, m, by rw [e]; rfl, ?_, hb⟩
      rw [e]
      exact own_mono hown hG
end Go.Proofs.Ytobeffjdfhkjeaa
