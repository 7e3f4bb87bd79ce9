import Derived.Test.YtckgapeednokjaaGreatTd
set_option linter.unusedVariables false
set_option linter.unusedSimpArgs false
namespace Go.Proofs.YtckgapeednokjaaGreat
open Go Go.Proofs Go.RowKit

/-! ### The reference: thin, fault -/
def GivesAny (w : World) (e : Ending) (w' : World) : Prop := ∃ b : Bool, e = .returned (.bool b) ∧ Below w.heap.size w w'
set_option maxRecDepth 100000 in
theorem short1_any (v : Value) (ll : List (List Int)) (w : World) (hv : RowsAt w v ll) : Calls Tryz.prog 43 #[v] w (GivesAny w) := by
  obtain ⟨A, c, rfl, hc, hm⟩ := hv.form
  obtain ⟨N, hN⟩ : ∃ N, ll.length = N := ⟨_, rfl⟩
  have Hv := Lib.hid hv
  rw [hN] at Hv hc ⊢
  have HN := Lib.hid hN
  clear hv hN
  go_enter Tryz.func43, Tryz.ntmps43
  go_wp2
  go_loop [3] (fun s => ∃ k : Nat, k ≤ N ∧ k ≤ 16 ∧ s = .int .i64 (k : Int)) (fun s => N - (intOf s).toNat)
  case atStart => exact ⟨0, by omega, by omega, rfl⟩
  case round =>
    obtain ⟨k, hk, hk2, rfl⟩ := hrel
    by_cases hlt : k < N
    · by_cases h16 : k < 16
      · obtain ⟨b, o, l, u, eA, hl, hu, hn, _⟩ := Hv.out.at_ (k := k) (by rw [HN.out]; exact hlt)
        subst eA
        obtain ⟨A3, c3, rfl, _, _⟩ := hn.form
        clear hl hn
        by_cases h15 : 15 < l.length
        · go_wp2
          go_ret
          exact ⟨_, rfl, Below.refl _ _⟩
        · go_wp2
          go_round
          case rel => exact ⟨k + 1, by omega, by omega, by go_num⟩
          case measure => simp [intOf]; omega
      · have hd : decide ((k : Int) < 16) = false := by simpa using (by omega : ¬ (k : Int) < 16)
        go_wp2
        go_ret
        exact ⟨_, rfl, Below.refl _ _⟩
    · obtain rfl : k = N := by omega
      go_wp2
      go_ret
      exact ⟨_, rfl, Below.refl _ _⟩
set_option maxRecDepth 100000 in
theorem Thin1_any (t : Tab) (u z : Value) (w : World) (hT : TabAt w u z t) : Calls Tryz.prog 13 #[.agg #[.int .i64 t.places, .int .i64 t.lay, u, z]] w (GivesAny w) := by
  obtain ⟨A1, c1, rfl, _, _⟩ := hT.rows.form
  obtain ⟨A2, c2, rfl, _, _⟩ := hT.trips.form
  have hb0 : Below w.heap.size w (w.alloc (.cells #[.int .i64 t.places, .int .i64 t.lay, .slice A1 t.empty.length c1, .slice A2 t.trips.length c2] 48)) := (Below.refl _ _).alloc (Nat.le_refl _) _
  have Hs := Lib.hid (short1_any _ _ _ (hT.rows.below hb0))
  have G0 := Lib.hid (heap_alloc_new w (.cells #[.int .i64 t.places, .int .i64 t.lay, .slice A1 t.empty.length c1, .slice A2 t.trips.length c2] 48 (0, 0)))
  clear hT
  go_enter Tryz.func13, Tryz.ntmps13
  have gc := box_cells G0.out
  have gf := box_frozen G0.out
  go_wp2_with fail
  refine Hs.out.mono ?_
  rintro e w1 ⟨b, rfl, hb1⟩
  have G1 := Lib.hid (box_stepR hb1 G0.out)
  replace gc := box_cells G1.out
  replace gf := box_frozen G1.out
  cases b with
  | true =>
    go_wp2
    go_ret
    exact ⟨_, rfl, hb0.trans (hb1.mono hb0.size)⟩
  | false =>
    go_wp2
    go_ret
    exact ⟨_, rfl, hb0.trans (hb1.mono hb0.size)⟩
def GivesFault (t : Tab) (w : World) (e : Ending) (w' : World) : Prop := ∃ n : Int, e = .returned (.int .i64 n) ∧ (n = 0 → TabOk t) ∧ Below w.heap.size w w'
theorem fault_bad {t : Tab} {w w' : World} {n : Int} (h : n ≠ 0) (hb : Below w.heap.size w w') : GivesFault t w (.returned (.int .i64 n)) w' := ⟨n, rfl, fun e => absurd e h, hb⟩
set_option maxRecDepth 100000 in
set_option maxHeartbeats 6400000 in
theorem Fault1_any (t : Tab) (u z : Value) (w : World) (hT : TabAt w u z t) : Calls Tryz.prog 14 #[.agg #[.int .i64 t.places, .int .i64 t.lay, u, z]] w (GivesFault t w) := by
  obtain ⟨A1, c1, rfl, _, _⟩ := hT.rows.form
  obtain ⟨A2, c2, rfl, _, _⟩ := hT.trips.form
  have hw0 : Below w.heap.size w (w.alloc (.cells #[.int .i64 t.places, .int .i64 t.lay, .slice A1 t.empty.length c1, .slice A2 t.trips.length c2] 48)) := (Below.refl _ _).alloc (Nat.le_refl _) _
  have G0 := Lib.hid (heap_alloc_new w (.cells #[.int .i64 t.places, .int .i64 t.lay, .slice A1 t.empty.length c1, .slice A2 t.trips.length c2] 48 (0, 0)))
  have HT := Lib.hid hT
  obtain ⟨N, hN⟩ : ∃ N : Nat, t.trips.length = N := ⟨_, rfl⟩
  have HN := Lib.hid hN
  obtain ⟨R, hR⟩ : ∃ R : Nat, t.empty.length = R := ⟨_, rfl⟩
  have HR := Lib.hid hR
  obtain ⟨L, hL⟩ : ∃ L : Int, t.lay = L := ⟨_, rfl⟩
  have HL := Lib.hid hL
  obtain ⟨P, hP⟩ : ∃ P : Int, t.places = P := ⟨_, rfl⟩
  have HP := Lib.hid hP
  rw [hN, hR, hL, hP] at G0 hw0 ⊢
  clear hT hN hR hL hP
  by_cases h1 : 12 < N
  · skip
    go_enter Tryz.func14, Tryz.ntmps14
    have gc := box_cells G0.out
    have gf := box_frozen G0.out
    go_wp2
    go_ret
    exact fault_bad (by decide) hw0
  cases h2 : inB P 1 6 with
  | false =>
    have H2 := Lib.hid h2
    clear h2
    go_enter Tryz.func14, Tryz.ntmps14
    have gc := box_cells G0.out
    have gf := box_frozen G0.out
    go_wp2_with fail
    refine (Same.to H2.out (InR_same _ _ _ _)).mono ?_
    rintro e wx ⟨rfl, rfl⟩
    go_wp2
    go_ret
    exact fault_bad (by decide) hw0
  | true =>
    cases h3 : inB L 0 600 with
    | false =>
      have H2 := Lib.hid h2
      have H3 := Lib.hid h3
      clear h2 h3
      go_enter Tryz.func14, Tryz.ntmps14
      have gc := box_cells G0.out
      have gf := box_frozen G0.out
      go_wp2_with fail
      refine (Same.to H2.out (InR_same _ _ _ _)).mono ?_
      rintro e wx ⟨rfl, rfl⟩
      go_wp2_with fail
      refine (Same.to H3.out (InR_same _ _ _ _)).mono ?_
      rintro e wx ⟨rfl, rfl⟩
      go_wp2
      go_ret
      exact fault_bad (by decide) hw0
    | true =>
      by_cases h4 : (R : Int) = P
      · skip
        subst h4
        have hP6 : 1 ≤ R ∧ R ≤ 6 := by
          have := inB_iff.1 h2
          omega
        have HP1 := Lib.hid (inB_iff.1 h2)
        have HL1 := Lib.hid (inB_iff.1 h3)
        have H2 := Lib.hid h2
        have H3 := Lib.hid h3
        clear h2 h3
        go_enter Tryz.func14, Tryz.ntmps14
        have gc := box_cells G0.out
        have gf := box_frozen G0.out
        go_upto_region 1 with (fail)
        refine wp_name (fun W => Below w.heap.size w W ∧ W.heap[w.heap.size]? = some (.cells #[.int .i64 (R : Int), .int .i64 L, .slice A1 R c1, .slice A2 N c2] 48 (0, 0))) ⟨hw0, G0.out⟩ (fun w1 hW => ?_)
        obtain ⟨hw1, g1⟩ := hW
        have G1 := Lib.hid g1
        clear g1
        replace gc := box_cells G1.out
        replace gf := box_frozen G1.out
        clear hw0 G0
        go_wp2_with fail
        refine (Same.to H2.out (InR_same _ _ _ _)).mono ?_
        rintro e wx ⟨rfl, rfl⟩
        go_wp2_with fail
        refine (Same.to H3.out (InR_same _ _ _ _)).mono ?_
        rintro e wx ⟨rfl, rfl⟩
        go_wp2
        go_loopw [3] (fun s wr => ∃ k : Nat, k ≤ R ∧ s = .int .i64 (k : Int) ∧ Below w1.heap.size w1 wr ∧ ∀ (a : Nat) (l : List Int), a < k → t.empty[a]? = some l → ((l.length : Int) = (R : Int) ∧ l[a]? = some 0 ∧ ∀ x ∈ l, 0 ≤ x ∧ x ≤ 600)) (fun s _ => R - (intOf s).toNat)
        case atStart => exact ⟨0, by omega, rfl, Below.refl _ _, fun a l h => by omega⟩
        case round =>
          obtain ⟨k, hk, rfl, hbr, hall⟩ := hrel
          have Hall := Lib.hid hall
          clear hall
          obtain ⟨wo, rfl⟩ : ∃ wo : World, wo = wr := ⟨_, rfl⟩
          have hwo := hw1.trans (hbr.mono hw1.size)
          have Go := Lib.hid (box_stepR hbr G1.out)
          replace gc := box_cells Go.out
          replace gf := box_frozen Go.out
          by_cases hlt : k < R
          · skip
            obtain ⟨b, o, l, u, eA, hl, hu, hn, _⟩ := (HT.out.rows.below hwo).at_ (k := k) (by rw [HR.out]; exact hlt)
            obtain ⟨A3, c3, rfl, _, _⟩ := hn.form
            obtain ⟨M, hM⟩ : ∃ M, l.length = M := ⟨_, rfl⟩
            have HM := Lib.hid hM
            have Hn := Lib.hid hn
            have Hl := Lib.hid hl
            rw [hM] at hu Hn
            clear hn hM hl
            have f0 := Later.cell (gc 0)
            have f2 := Later.cell (gc 2)
            have f4 := Later.cell hu
            by_cases hMR : M = R
            · skip
              subst hMR
              have d1 : ((M : Int) != (M : Int)) = false := by simp
              obtain ⟨b2, o2, x, eA3, hx, hcx, _⟩ := Hn.out.at_ (k := k) (by rw [HM.out]; exact hlt)
              subst eA eA3
              have Hx := Lib.hid hx
              clear hx
              have f5 := Later.cell hcx
              by_cases hx0 : x = 0
              · skip
                subst hx0
                go_wp2_with fail
                refine wp_region_later (by kernel_rfl) (by kernel_rfl) ?_
                repeat (go_big_quiet_step (fail))
                refine wpQuiet_nil ?_
                intro wq hxq
                have hbq := Later.out hxq
                clear hxq f0 f2 f4
                have hwq := hwo.trans (hbq.mono hwo.size)
                have Gq := Lib.hid (box_stepR hbq Go.out)
                replace gc := box_cells Gq.out
                replace gf := box_frozen Gq.out
                clear f5
                replace hu := cell_below hbq hu
                have hnq := Hn.out.below hbq
                have Hnq := Lib.hid hnq
                clear hnq hcx
                go_wp2
                go_loop [4] (fun s => ∃ j : Nat, j ≤ M ∧ s = .int .i64 (j : Int) ∧ ∀ (i : Nat) (y : Int), i < j → l[i]? = some y → 0 ≤ y ∧ y ≤ 600) (fun s => M - (intOf s).toNat)
                case atStart => exact ⟨0, by omega, rfl, fun i y h => by omega⟩
                case round =>
                  obtain ⟨j, hj, rfl, hin⟩ := hrel
                  have Hin := Lib.hid hin
                  clear hin
                  by_cases hjl : j < M
                  · skip
                    obtain ⟨b3, o3, y, eA3, hy, hcy, _⟩ := Hnq.out.at_ (k := j) (by rw [HM.out]; exact hjl)
                    cases eA3
                    have Hy := Lib.hid hy
                    clear hy
                    cases hyb : inB y 0 600 with
                    | false =>
                      have Hyb := Lib.hid hyb
                      clear hyb
                      go_wp2_with (refine (Same.to Hyb.out (InR_same _ _ _ _)).mono ?_; rintro e wx ⟨rfl, rfl⟩)
                      go_ret
                      exact fault_bad (by decide) hwq
                    | true =>
                      have Hyb := Lib.hid hyb
                      clear hyb
                      go_wp2_with (refine (Same.to Hyb.out (InR_same _ _ _ _)).mono ?_; rintro e wx ⟨rfl, rfl⟩)
                      go_round
                      case rel =>
                        refine ⟨j + 1, by omega, by go_num, fun i z hi hz => ?_⟩
                        by_cases e : i = j
                        · subst e
                          rw [Hy.out] at hz
                          cases hz
                          exact inB_iff.1 Hyb.out
                        · exact Hin.out i z (by omega) hz
                      case measure => simp [intOf]; omega
                  · skip
                    obtain rfl : j = M := by omega
                    go_wp2
                    go_roundw
                    case rel =>
                      refine ⟨k + 1, by omega, by go_num, hbr.trans (hbq.mono hbr.size), fun a l2 ha hl2 => ?_⟩
                      by_cases e : a = k
                      · subst e
                        rw [Hl.out] at hl2
                        cases hl2
                        refine ⟨by rw [HM.out], Hx.out, fun x hx => ?_⟩
                        obtain ⟨i, hi, rfl⟩ := List.getElem_of_mem hx
                        exact Hin.out i _ (by rw [← HM.out]; exact hi) (List.getElem?_eq_getElem hi)
                      · exact Hall.out a l2 (by omega) hl2
                    case measure => simp [intOf]; omega
              · skip
                have d2 : (x != (0 : Int)) = true := by simpa using hx0
                go_wp2_with fail
                refine wp_region_later (by kernel_rfl) (by kernel_rfl) ?_
                repeat (go_big_quiet_step (fail))
                refine wpQuiet_nil ?_
                intro wq hxq
                have hbq := Later.out hxq
                clear hxq f0 f2 f4
                have hwq := hwo.trans (hbq.mono hwo.size)
                have Gq := Lib.hid (box_stepR hbq Go.out)
                replace gc := box_cells Gq.out
                replace gf := box_frozen Gq.out
                go_wp2
                go_ret
                exact fault_bad (by decide) hwq
            · skip
              have d1 : ((M : Int) != (R : Int)) = true := by simp; omega
              subst eA
              go_wp2_with fail
              refine wp_region_later (by kernel_rfl) (by kernel_rfl) ?_
              repeat (go_big_quiet_step (fail))
              refine wpQuiet_nil ?_
              intro wq hxq
              have hbq := Later.out hxq
              clear hxq f0 f2 f4
              have hwq := hwo.trans (hbq.mono hwo.size)
              have Gq := Lib.hid (box_stepR hbq Go.out)
              replace gc := box_cells Gq.out
              replace gf := box_frozen Gq.out
              go_wp2
              go_ret
              exact fault_bad (by decide) hwq
          · skip
            obtain rfl : k = R := by omega
            go_wp2
            go_loopw [5] (fun s wr => ∃ j : Nat, j ≤ N ∧ s = .int .i64 (j : Int) ∧ Below wo.heap.size wo wr ∧ ∀ (i : Nat) (x : Trip), i < j → t.trips[i]? = some x → TripOk t.places x) (fun s _ => N - (intOf s).toNat)
            case atStart => exact ⟨0, by omega, rfl, Below.refl _ _, fun i x h => by omega⟩
            case round =>
              obtain ⟨j, hj, rfl, hbr3, hal3⟩ := hrel
              have Hal3 := Lib.hid hal3
              clear hal3
              obtain ⟨wp, rfl⟩ : ∃ wp : World, wp = wr := ⟨_, rfl⟩
              have hwp := hwo.trans (hbr3.mono hwo.size)
              have Gp := Lib.hid (box_stepR hbr3 Go.out)
              replace gc := box_cells Gp.out
              replace gf := box_frozen Gp.out
              by_cases hjl : j < N
              · skip
                obtain ⟨b, o, x, eA, hx, x0, x1, x2, x3, x4, x5, _⟩ := (HT.out.trips.below hwp).at_ (k := j) (by rw [HN.out]; exact hjl)
                subst eA
                have Hx := Lib.hid hx
                have hBlt : w.heap.size < wp.heap.size := (Array.getElem?_eq_some_iff.1 Gp.out).1
                clear hx
                cases q0 : inB x.fr 0 ((k : Int) - 1) with
                | false =>
                  have T0 := Lib.hid q0
                  clear q0
                  go_wp2_with fail
                  refine (Same.to T0.out (InR_same _ _ _ _)).mono ?_
                  rintro e wx ⟨rfl, rfl⟩
                  go_wp2
                  go_ret
                  exact fault_bad (by decide) (hwp.trans (((Below.refl wp.heap.size wp).alloc (Nat.le_refl _) _).mono hwp.size))
                | true =>
                  have T0 := Lib.hid q0
                  clear q0
                  cases q1 : inB x.to 0 ((k : Int) - 1) with
                  | false =>
                    have T1 := Lib.hid q1
                    clear q1
                    go_wp2_with fail
                    refine (Same.to T0.out (InR_same _ _ _ _)).mono ?_
                    rintro e wx ⟨rfl, rfl⟩
                    go_wp2_with fail
                    refine (Same.to T1.out (InR_same _ _ _ _)).mono ?_
                    rintro e wx ⟨rfl, rfl⟩
                    go_wp2
                    go_ret
                    exact fault_bad (by decide) (hwp.trans (((Below.refl wp.heap.size wp).alloc (Nat.le_refl _) _).mono hwp.size))
                  | true =>
                    have T1 := Lib.hid q1
                    clear q1
                    cases q2 : inB x.start 0 2000 with
                    | false =>
                      have T2 := Lib.hid q2
                      clear q2
                      go_wp2_with fail
                      refine (Same.to T0.out (InR_same _ _ _ _)).mono ?_
                      rintro e wx ⟨rfl, rfl⟩
                      go_wp2_with fail
                      refine (Same.to T1.out (InR_same _ _ _ _)).mono ?_
                      rintro e wx ⟨rfl, rfl⟩
                      go_wp2_with fail
                      refine (Same.to T2.out (InR_same _ _ _ _)).mono ?_
                      rintro e wx ⟨rfl, rfl⟩
                      go_wp2
                      go_ret
                      exact fault_bad (by decide) (hwp.trans (((Below.refl wp.heap.size wp).alloc (Nat.le_refl _) _).mono hwp.size))
                    | true =>
                      have T2 := Lib.hid q2
                      clear q2
                      cases q3 : inB x.least 1 x.most with
                      | false =>
                        have T3 := Lib.hid q3
                        clear q3
                        go_wp2_with fail
                        refine (Same.to T0.out (InR_same _ _ _ _)).mono ?_
                        rintro e wx ⟨rfl, rfl⟩
                        go_wp2_with fail
                        refine (Same.to T1.out (InR_same _ _ _ _)).mono ?_
                        rintro e wx ⟨rfl, rfl⟩
                        go_wp2_with fail
                        refine (Same.to T2.out (InR_same _ _ _ _)).mono ?_
                        rintro e wx ⟨rfl, rfl⟩
                        go_wp2_with fail
                        refine (Same.to T3.out (InR_same _ _ _ _)).mono ?_
                        rintro e wx ⟨rfl, rfl⟩
                        go_wp2
                        go_ret
                        exact fault_bad (by decide) (hwp.trans (((Below.refl wp.heap.size wp).alloc (Nat.le_refl _) _).mono hwp.size))
                      | true =>
                        have T3 := Lib.hid q3
                        clear q3
                        cases q4 : decide (600 < x.most) with
                        | true =>
                          have T4 := Lib.hid q4
                          go_wp2_with fail
                          refine (Same.to T0.out (InR_same _ _ _ _)).mono ?_
                          rintro e wx ⟨rfl, rfl⟩
                          go_wp2_with fail
                          refine (Same.to T1.out (InR_same _ _ _ _)).mono ?_
                          rintro e wx ⟨rfl, rfl⟩
                          go_wp2_with fail
                          refine (Same.to T2.out (InR_same _ _ _ _)).mono ?_
                          rintro e wx ⟨rfl, rfl⟩
                          go_wp2_with fail
                          refine (Same.to T3.out (InR_same _ _ _ _)).mono ?_
                          rintro e wx ⟨rfl, rfl⟩
                          go_wp2
                          go_ret
                          exact fault_bad (by decide) (hwp.trans (((Below.refl wp.heap.size wp).alloc (Nat.le_refl _) _).mono hwp.size))
                        | false =>
                          have T4 := Lib.hid q4
                          cases q5 : inB x.kind 0 2 with
                          | false =>
                            have T5 := Lib.hid q5
                            clear q5
                            go_wp2_with fail
                            refine (Same.to T0.out (InR_same _ _ _ _)).mono ?_
                            rintro e wx ⟨rfl, rfl⟩
                            go_wp2_with fail
                            refine (Same.to T1.out (InR_same _ _ _ _)).mono ?_
                            rintro e wx ⟨rfl, rfl⟩
                            go_wp2_with fail
                            refine (Same.to T2.out (InR_same _ _ _ _)).mono ?_
                            rintro e wx ⟨rfl, rfl⟩
                            go_wp2_with fail
                            refine (Same.to T3.out (InR_same _ _ _ _)).mono ?_
                            rintro e wx ⟨rfl, rfl⟩
                            go_wp2_with fail
                            refine (Same.to T5.out (InR_same _ _ _ _)).mono ?_
                            rintro e wx ⟨rfl, rfl⟩
                            go_wp2
                            go_ret
                            exact fault_bad (by decide) (hwp.trans (((Below.refl wp.heap.size wp).alloc (Nat.le_refl _) _).mono hwp.size))
                          | true =>
                            have T5 := Lib.hid q5
                            clear q5
                            go_wp2_with fail
                            refine (Same.to T0.out (InR_same _ _ _ _)).mono ?_
                            rintro e wx ⟨rfl, rfl⟩
                            go_wp2_with fail
                            refine (Same.to T1.out (InR_same _ _ _ _)).mono ?_
                            rintro e wx ⟨rfl, rfl⟩
                            go_wp2_with fail
                            refine (Same.to T2.out (InR_same _ _ _ _)).mono ?_
                            rintro e wx ⟨rfl, rfl⟩
                            go_wp2_with fail
                            refine (Same.to T3.out (InR_same _ _ _ _)).mono ?_
                            rintro e wx ⟨rfl, rfl⟩
                            go_wp2_with fail
                            refine (Same.to T5.out (InR_same _ _ _ _)).mono ?_
                            rintro e wx ⟨rfl, rfl⟩
                            go_wp2
                            go_roundw
                            case rel =>
                              refine ⟨j + 1, by omega, by go_num, hbr3.trans (((Below.refl wp.heap.size wp).alloc (Nat.le_refl _) _).mono hbr3.size), fun i y hi hy => ?_⟩
                              by_cases e : i = j
                              · subst e
                                rw [Hx.out] at hy
                                cases hy
                                have t0 := inB_iff.1 T0.out
                                have t1 := inB_iff.1 T1.out
                                have t2 := inB_iff.1 T2.out
                                have t3 := inB_iff.1 T3.out
                                have t5 := inB_iff.1 T5.out
                                have t4 : ¬ 600 < x.most := by simpa using T4.out
                                rw [HP.out]
                                exact ⟨t0, t1, t2, t3, by omega, t5⟩
                              · exact Hal3.out i y (by omega) hy
                            case measure => simp [intOf]; omega
              · skip
                obtain rfl : j = N := by omega
                go_wp2
                go_ret
                refine ⟨_, rfl, fun _ => ⟨by rw [HN.out]; omega, by rw [HP.out]; omega, by rw [HL.out]; exact HL1.out, by rw [HR.out, HP.out], fun a l hl => ?_, fun x hx => ?_⟩, hwp⟩
                · have ha := (List.getElem?_eq_some_iff.1 hl).1
                  have h3 := Hall.out a l (by rw [← HR.out]; exact ha) hl
                  rw [HP.out]
                  exact h3
                · obtain ⟨i, hi, rfl⟩ := List.getElem_of_mem hx
                  exact Hal3.out i _ (by rw [← HN.out]; exact hi) (List.getElem?_eq_getElem hi)
      · skip
        have d4 : ((R : Int) != P) = true := by simpa using h4
        have H2 := Lib.hid h2
        have H3 := Lib.hid h3
        clear h2 h3
        go_enter Tryz.func14, Tryz.ntmps14
        have gc := box_cells G0.out
        have gf := box_frozen G0.out
        go_wp2_with fail
        refine (Same.to H2.out (InR_same _ _ _ _)).mono ?_
        rintro e wx ⟨rfl, rfl⟩
        go_wp2_with fail
        refine (Same.to H3.out (InR_same _ _ _ _)).mono ?_
        rintro e wx ⟨rfl, rfl⟩
        go_wp2
        go_ret
        exact fault_bad (by decide) hw0
end Go.Proofs.YtckgapeednokjaaGreat
