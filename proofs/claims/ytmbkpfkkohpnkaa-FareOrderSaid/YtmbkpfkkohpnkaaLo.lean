import Derived.Test.YtmbkpfkkohpnkaaSw
import Derived.Test.YtmbkpfkkohpnkaaLc
import Derived.Test.YtmbkpfkkohpnkaaLd
set_option linter.unusedVariables false
set_option linter.unusedSimpArgs false
namespace Go.Proofs.Ytmbkpfkkohpnkaa
open Go Go.Proofs Go.RowKit

set_option maxRecDepth 100000 in
set_option maxHeartbeats 4000000 in
theorem Order_law (t : Tar) (a b c0 v z : Value) (l : List Rd) (ws : List Int) (w : World) (hT : TarAt w a b c0 t) (hv : RdsAt w v l) (hz : NumsAt .u16 w z ws) (hw : ∀ x ∈ ws, 0 ≤ x ∧ x ≤ 65535) :
    Calls Try.prog 6 #[.agg #[.int .i64 t.zones, a, b, c0, .int .i64 t.window], v, z] w (Gives w (.bool true)) := by
  obtain ⟨Av, cv, rfl, _, _⟩ := hv.form
  obtain ⟨Az, cz, rfl, _, _⟩ := hz.form
  obtain ⟨i0, hi0, hz0, hz1, hz2⟩ := info_parts info_rdsR
  obtain ⟨N, hN⟩ : ∃ N, l.length = N := ⟨_, rfl⟩
  obtain ⟨M, hM⟩ : ∃ M, ws.length = M := ⟨_, rfl⟩
  rw [hN] at hv ⊢
  rw [hM] at hz ⊢
  have HN := Lib.hid hN
  have HM := Lib.hid hM
  have HT := Lib.hid hT
  have Hv := Lib.hid hv
  have Hz0 := Lib.hid hz
  have Hw := Lib.hid hw
  clear hT hv hz hN hM hw
  go_enter Try.func6, Try.ntmps6
  go_upto_region 1 with (fail)
  refine wp_name (fun W => Below w.heap.size w W ∧ W.heap[w.heap.size]? = some (.cells #[.int .i64 t.zones, a, b, c0, .int .i64 t.window] 24 (0, 0))) ⟨(Below.refl _ _).alloc (Nat.le_refl _) _, heap_alloc_new w _⟩ (fun W0 hW => ?_)
  obtain ⟨hb0, hx0⟩ := hW
  have HB0 := Lib.hid hb0
  have HX0 := Lib.hid hx0
  clear hb0 hx0
  have aq := box_cells HX0.out
  have a0 := aq 0
  have a1 := aq 1
  have a2 := aq 2
  have a3 := aq 3
  have a4 := aq 4
  simp only [List.getElem?_toArray, List.getElem?_cons_zero, List.getElem?_cons_succ] at a0 a1 a2 a3 a4
  clear aq
  go_wp2_with fail
  refine (ready_any t a b c0 _ l W0 (HT.out.below HB0.out) (Hv.out.below HB0.out)).mono ?_
  rintro e w1 ⟨rfl, hb1⟩
  clear a0 a1 a2 a3 a4
  have HB1 := Lib.hid (HB0.out.trans (hb1.mono HB0.out.size))
  have HX1 := Lib.hid ((hb1.block _ (Array.getElem?_eq_some_iff.1 HX0.out).1).trans HX0.out)
  clear hb1
  cases hre : readyB t l with
  | false =>
    clear hre
    go_wp2_with fail
    refine (awake_any _).mono ?_
    rintro e wz2 ⟨rfl, hbz2⟩
    go_wp2
    go_ret
    exact ⟨rfl, HB1.out.trans (hbz2.mono HB1.out.size)⟩
  | true =>
    obtain ⟨hth, h20, hz⟩ := ready_iff.1 hre
    rw [HN.out] at h20
    have Hth := Lib.hid hth
    have Hz := Lib.hid hz
    clear hre hth hz
    have hb0 : Below w1.heap.size w1 (w1.alloc (.cells #[] 68)) := (Below.refl _ _).alloc (Nat.le_refl _) _
    have ho : (w1.alloc (.cells #[] 68)).ownsRow w1.heap.size 68 4 (.slice (some ⟨w1.heap.size, 0, none⟩) 0 0) 0 [] := World.ownsRow_lit w1 #[] 0 (Nat.le_refl _) (by simp [maxLen]) (by simp)
    have hsrc : Src (w1.alloc (.cells #[] 68)) Av N 4 (l.flatMap rdC) := by have := rds_src ((Hv.out.below HB1.out).below hb0); rw [HN.out] at this; exact this
    go_wp2_with (at_builtin; refine wpList_append_src _ rfl (.tmp 22) (.tmp 23) 25 rfl w1.heap.size 68 i0 _ 4 32 Try.underlying25 hi0 hz0 hz1 hz2 rfl (by omega) _ 0 [] rfl ho Av N cv (l.flatMap rdC) rfl hsrc (rds_one l) (by simp [maxLen]; omega) (by omega) (by simp) ?_; intro v1 w2 hown1 hg1 hat1)
    rw [Nat.zero_add, List.nil_append] at hown1
    have hbo := below_grown hb0 hg1 (by simp) ho (Nat.le_refl _)
    obtain ⟨A, c, rfl⟩ := own_form hown1
    have Hbo := Lib.hid hbo
    have Hown := Lib.hid hown1
    clear hown1 hg1 hat1 hb0 ho hsrc hbo
    go_wp2
    go_loopw [8] (fun s wr => ∃ (i : Nat) (L : List Rd), i ≤ N ∧ L.Perm l ∧ s = .int .i64 i ∧ Below w1.heap.size w1 wr ∧ wr.ownsRow w1.heap.size 68 4 (.slice A N c) N (L.flatMap rdC)) (fun s wr => N - (intOf s).toNat)
    case atStart => exact ⟨0, l, by omega, .refl _, rfl, Hbo.out, Hown.out⟩
    case round =>
      obtain ⟨i, L, hi, hL, rfl, hbr, hor⟩ := hrel
      have Hbr := Lib.hid hbr
      have Hor := Lib.hid hor
      have HLp := Lib.hid hL
      have HL := Lib.hid (hL.length_eq.trans HN.out)
      clear hbr hor hL Hown Hbo
      by_cases hlt : i < N
      · obtain ⟨g, rfl, hgb, hgl⟩ := own_some Hor.out (by omega)
        have ii : (i : Int) < (N : Int) := by omega
        go_wp2_with fail
        refine (word_any _ ws i _ ((Hz0.out.below HB1.out).below Hbr.out) Hw.out (by omega)).mono ?_
        rintro e w5 ⟨rfl, hb5⟩
        have hwb := wordL_bd Hw.out i
        obtain ⟨m, hm⟩ : ∃ m : Nat, wordL ws i = (m : Int) := ⟨(wordL ws i).toNat, by omega⟩
        rw [hm] at hwb ⊢
        have Hb5 := Lib.hid (Hbr.out.trans (hb5.mono Hbr.out.size))
        have Ho5 := Lib.hid (own_below Hor.out hb5)
        clear hb5 hm Hbr Hor
        obtain ⟨wr, rfl⟩ : ∃ W : World, W = w5 := ⟨_, rfl⟩
        have Hbr := Lib.hid Hb5.out
        have Hor := Lib.hid Ho5.out
        clear Hb5 Ho5
        have ez : ¬ ((N : Int) = 0) := by omega
        have ezb : ((N : Int) == 0) = false := by simpa using ez
        have er : Int.tmod (m : Int) (N : Int) = ((m % N : Nat) : Int) := by rw [Int.tmod_eq_emod_of_nonneg (by omega)]; rfl
        obtain ⟨j, hj0⟩ : ∃ j, m % N = j := ⟨_, rfl⟩
        have hjN : j < N := by rw [← hj0]; exact Nat.mod_lt _ (by omega)
        rw [hj0] at er
        have ew : IntKind.i64.wrap (j : Int) = (j : Int) := IntWalk.i64_in _ (by omega)
        have ij : (j : Int) < (N : Int) := by omega
        clear hj0 hwb
        have hi : ∃ x, L[i]? = some x := ⟨_, List.getElem?_eq_getElem (by have := HL.out; omega)⟩
        have hj : ∃ y, L[j]? = some y := ⟨_, List.getElem?_eq_getElem (by have := HL.out; omega)⟩
        obtain ⟨x, hi⟩ := hi
        obtain ⟨y, hj⟩ := hj
        have hLc : (L.flatMap rdC).length = L.length * 4 := flat_length (f := rdC) (n := 4) (fun _ => rfl) L
        have hiL := (List.getElem?_eq_some_iff.1 hi).1
        have hjL := (List.getElem?_eq_some_iff.1 hj).1
        have Hcx := Lib.hid (fun o (ho : o < 4) => (Hor.out.cellAt (i * 4 + o) (by omega)).trans (flat_get (f := rdC) (n := 4) (fun _ => rfl) hi ho))
        have Hcy := Lib.hid (fun o (ho : o < 4) => (Hor.out.cellAt (j * 4 + o) (by omega)).trans (flat_get (f := rdC) (n := 4) (fun _ => rfl) hj ho))
        have Hperm := Lib.hid (swap_perm hi hj)
        clear hi hj
        have cx0 : wr.cell? ⟨g, i * 4, none⟩ = some (.int .i64 x.day) := Hcx.out 0 (by omega)
        have cy0 : wr.cell? ⟨g, j * 4, none⟩ = some (.int .i64 y.day) := Hcy.out 0 (by omega)
        have cx1 : wr.cell? ⟨g, i * 4 + 1, none⟩ = some (.int .i64 x.minute) := Hcx.out 1 (by omega)
        have cy1 : wr.cell? ⟨g, j * 4 + 1, none⟩ = some (.int .i64 y.minute) := Hcy.out 1 (by omega)
        have cx2 : wr.cell? ⟨g, i * 4 + 2, none⟩ = some (.int .i64 x.low) := Hcx.out 2 (by omega)
        have cy2 : wr.cell? ⟨g, j * 4 + 2, none⟩ = some (.int .i64 y.low) := Hcy.out 2 (by omega)
        have cx3 : wr.cell? ⟨g, i * 4 + 3, none⟩ = some (.int .i64 x.high) := Hcx.out 3 (by omega)
        have cy3 : wr.cell? ⟨g, j * 4 + 3, none⟩ = some (.int .i64 y.high) := Hcy.out 3 (by omega)
        go_upto_region 8 with (fail)
        refine wp_region_noPanic ?_
        refine wp_region_pickA [0, 1, 2, 3, 4, 5, 6, 8, 9, 10] 6 (fun _ => true) (fun _ => True) (by kernel_rfl) (by kernel_rfl) (fun _ _ _ _ _ h => h) trivial (fun hne => ?_)
        simp only [pick, pickN, List.filterMap_cons, List.filterMap_nil, List.getElem?_cons_zero, List.getElem?_cons_succ, Option.map_some]
        repeat (change wpQuiet _ _ _ _ (_ :: _) _; go_big_quiet_step (fail))
        refine wpQuiet_nil ?_
        clear hne
        refine wpAnyF_weak (S := fun w' => Below wr.heap.size wr w') (kp := fun i => !(i == 13 || i == 14 || i == 15)) _ _ _ _ ?_
        refine wpAnyF_pick (by kernel_rfl) (fun _ _ _ _ _ h => h) 4 [7, 11] _ _ _ (by kernel_rfl) (Below.refl _ _).drew ?_
        have hne2 : Nonempty (Meets (fun w' => Below wr.heap.size wr w')) := ⟨⟨wr, Below.refl _ _⟩⟩
        have nx0 := fun X : Meets (fun w' => Below wr.heap.size wr w') => cell_below X.property cx0
        have ny0 := fun X : Meets (fun w' => Below wr.heap.size wr w') => cell_below X.property cy0
        have nx1 := fun X : Meets (fun w' => Below wr.heap.size wr w') => cell_below X.property cx1
        have ny1 := fun X : Meets (fun w' => Below wr.heap.size wr w') => cell_below X.property cy1
        have nx2 := fun X : Meets (fun w' => Below wr.heap.size wr w') => cell_below X.property cx2
        have ny2 := fun X : Meets (fun w' => Below wr.heap.size wr w') => cell_below X.property cy2
        have nx3 := fun X : Meets (fun w' => Below wr.heap.size wr w') => cell_below X.property cx3
        have ny3 := fun X : Meets (fun w' => Below wr.heap.size wr w') => cell_below X.property cy3
        simp only [pick, pickN, List.filterMap_cons, List.filterMap_nil, List.getElem?_cons_zero, List.getElem?_cons_succ, Option.map_some]
        repeat (change wpQuiet _ _ _ _ (_ :: _) _; go_big_quiet_step (fail))
        refine wpQuiet_nil ?_
        clear hne2 nx0 ny0 cx0 cy0 nx1 ny1 cx1 cy1 nx2 ny2 cx2 cy2 nx3 ny3 cx3 cy3
        refine wpAnyF_name (fun W => W.ownsRow w1.heap.size 68 4 (.slice (some ⟨g, 0, none⟩) N c) N (L.flatMap rdC) ∧ Below w1.heap.size w1 W ∧ Below wr.heap.size wr W) ⟨own_below Hor.out (Below.refl _ _).drew, Hbr.out.drew, (Below.refl _ _).drew⟩ (fun W hW => ?_)
        obtain ⟨W1, W2, W4⟩ := hW
        have HB9 := Lib.hid W4
        have HW1 := Lib.hid W1
        have HW2 := Lib.hid W2
        clear W1 W2 W4
        have hls : (L.flatMap rdC).length = N * 4 := by
          rw [flat_length (f := rdC) (n := 4) (fun _ => rfl)]
          try simp only [List.length_set]
          rw [HL.out]
        have d0 := HW1.out.cellAt (i * 4) (by omega)
        obtain ⟨u0, e0⟩ : ∃ u, (L.flatMap rdC)[i * 4]? = some u := ⟨_, List.getElem?_eq_getElem (by rw [hls]; omega)⟩
        rw [e0] at d0
        have d1 := HW1.out.cellAt (i * 4 + 1) (by omega)
        obtain ⟨u1, e1⟩ : ∃ u, (L.flatMap rdC)[i * 4 + 1]? = some u := ⟨_, List.getElem?_eq_getElem (by rw [hls]; omega)⟩
        rw [e1] at d1
        have d2 := HW1.out.cellAt (i * 4 + 2) (by omega)
        obtain ⟨u2, e2⟩ : ∃ u, (L.flatMap rdC)[i * 4 + 2]? = some u := ⟨_, List.getElem?_eq_getElem (by rw [hls]; omega)⟩
        rw [e2] at d2
        have d3 := HW1.out.cellAt (i * 4 + 3) (by omega)
        obtain ⟨u3, e3⟩ : ∃ u, (L.flatMap rdC)[i * 4 + 3]? = some u := ⟨_, List.getElem?_eq_getElem (by rw [hls]; omega)⟩
        rw [e3] at d3
        have fz := fun o => HW1.out.frozenAt o
        clear hls e0 e1 e2 e3
        refine wpAnyF_one (i := 12) (by kernel_rfl) rfl (fun K hK => ?_)
        go_simp
        refine hK.out _ _ (fun _ => HB9.out) ?_
        clear hK K
        refine wpAnyF_one (i := 13) (by kernel_rfl) rfl (fun K hK => ?_)
        go_simp
        refine hK.out _ _ (fun h => by cases h) ?_
        clear hK K d0 d1 d2 d3 fz
        have hO1 := ((((HW1.out.stored (i * 4) (.int .i64 y.day)).1.stored (i * 4 + 1) (.int .i64 y.minute)).1.stored (i * 4 + 2) (.int .i64 y.low)).1.stored (i * 4 + 3) (.int .i64 y.high)).1
        rw [rd_setC y hiL] at hO1
        refine wpAnyF_name (fun V => V.ownsRow w1.heap.size 68 4 (.slice (some ⟨g, 0, none⟩) N c) N ((L.set i y).flatMap rdC) ∧ Below w1.heap.size w1 V) ⟨hO1, ((((((((HW2.out).setCell (p := ⟨g, i * 4, none⟩) hgb (.int .i64 y.day))).setCell (p := ⟨g, i * 4 + 1, none⟩) hgb (.int .i64 y.minute))).setCell (p := ⟨g, i * 4 + 2, none⟩) hgb (.int .i64 y.low))).setCell (p := ⟨g, i * 4 + 3, none⟩) hgb (.int .i64 y.high))⟩ (fun V hV => ?_)
        obtain ⟨V1, V2⟩ := hV
        clear hO1
        have HV1 := Lib.hid V1
        have HV2 := Lib.hid V2
        clear V1 V2
        have hls : ((L.set i y).flatMap rdC).length = N * 4 := by
          rw [flat_length (f := rdC) (n := 4) (fun _ => rfl)]
          try simp only [List.length_set]
          rw [HL.out]
        have d0 := HV1.out.cellAt (j * 4) (by omega)
        obtain ⟨u0, e0⟩ : ∃ u, ((L.set i y).flatMap rdC)[j * 4]? = some u := ⟨_, List.getElem?_eq_getElem (by rw [hls]; omega)⟩
        rw [e0] at d0
        have d1 := HV1.out.cellAt (j * 4 + 1) (by omega)
        obtain ⟨u1, e1⟩ : ∃ u, ((L.set i y).flatMap rdC)[j * 4 + 1]? = some u := ⟨_, List.getElem?_eq_getElem (by rw [hls]; omega)⟩
        rw [e1] at d1
        have d2 := HV1.out.cellAt (j * 4 + 2) (by omega)
        obtain ⟨u2, e2⟩ : ∃ u, ((L.set i y).flatMap rdC)[j * 4 + 2]? = some u := ⟨_, List.getElem?_eq_getElem (by rw [hls]; omega)⟩
        rw [e2] at d2
        have d3 := HV1.out.cellAt (j * 4 + 3) (by omega)
        obtain ⟨u3, e3⟩ : ∃ u, ((L.set i y).flatMap rdC)[j * 4 + 3]? = some u := ⟨_, List.getElem?_eq_getElem (by rw [hls]; omega)⟩
        rw [e3] at d3
        have fz := fun o => HV1.out.frozenAt o
        clear hls e0 e1 e2 e3
        refine wpAnyF_one (i := 14) (by kernel_rfl) rfl (fun K hK => ?_)
        go_simp
        refine hK.out _ _ (fun h => by cases h) ?_
        clear hK K
        refine wpAnyF_one (i := 15) (by kernel_rfl) rfl (fun K hK => ?_)
        go_simp
        refine hK.out _ _ (fun h => by cases h) ?_
        clear hK K d0 d1 d2 d3 fz
        refine wpAnyF_done (by kernel_rfl) ?_ _
        refine NoPanic.normal ?_
        have hO2 := ((((HV1.out.stored (j * 4) (.int .i64 x.day)).1.stored (j * 4 + 1) (.int .i64 x.minute)).1.stored (j * 4 + 2) (.int .i64 x.low)).1.stored (j * 4 + 3) (.int .i64 x.high)).1
        rw [rd_setC x (by rw [List.length_set]; exact hjL)] at hO2
        have HO2 := Lib.hid hO2
        have HB2 := Lib.hid (((((((((HV2.out).setCell (p := ⟨g, j * 4, none⟩) hgb (.int .i64 x.day))).setCell (p := ⟨g, j * 4 + 1, none⟩) hgb (.int .i64 x.minute))).setCell (p := ⟨g, j * 4 + 2, none⟩) hgb (.int .i64 x.low))).setCell (p := ⟨g, j * 4 + 3, none⟩) hgb (.int .i64 x.high)))
        clear hO2 hLc
        go_wp2
        go_roundw
        case rel => exact ⟨i + 1, (L.set i y).set j x, by omega, Hperm.out.trans HLp.out, by go_num, HB2.out, HO2.out⟩
        case measure => simp [intOf]; omega
      · have ii : ¬ (i : Int) < (N : Int) := by omega
        have HLm := Lib.hid (fun r => HLp.out.mem_iff (a := r))
        go_wp2
        go_loopw [7, 10] (fun o s wr => ∃ (k : Nat) (X : List Rd) (A : Option Addr) (c n : Nat), k ≤ N ∧ n = X.length ∧ X.length ≤ N + k ∧ (∀ r, r ∈ X ↔ r ∈ l) ∧ o = .slice A n c ∧ s = .int .i64 k ∧ Below w1.heap.size w1 wr ∧ wr.ownsRow w1.heap.size 68 4 (.slice A n c) n (X.flatMap rdC)) (fun o s wr => N - (intOf s).toNat)
        case atStart => exact ⟨0, L, A, c, N, by omega, HL.out.symm, by have := HL.out; omega, HLm.out, rfl, rfl, Hbr.out, Hor.out⟩
        case round =>
          clear Hbr Hor HLp HLm HL ii hlt hi
          obtain ⟨k, X, A2, c2, n, hk, hn, hnk, hX, rfl, rfl, hbr, hor⟩ := hrel
          have Hbr := Lib.hid hbr
          have Hor := Lib.hid hor
          have Hn := Lib.hid hn
          have Hnk := Lib.hid hnk
          have HX := Lib.hid hX
          have hnl : n ≤ 40 := by omega
          clear hbr hor hn hnk hX
          by_cases hlt : k < N
          · have ik : (k : Int) < (N : Int) := by omega
            have wk : IntKind.i64.wrap ((k : Int) + 2) = ((k + 2 : Nat) : Int) := IntWalk.i64_in _ (by omega)
            go_wp2_with fail
            rw [show (k : Int) + 2 = ((k + 2 : Nat) : Int) by omega]
            refine (word_any _ ws (k + 2) _ ((Hz0.out.below HB1.out).below Hbr.out) Hw.out (by omega)).mono ?_
            rintro e w5 ⟨rfl, hb5⟩
            have hwb := wordL_bd Hw.out (k + 2)
            obtain ⟨m, hm⟩ : ∃ m : Nat, wordL ws (k + 2) = (m : Int) := ⟨(wordL ws (k + 2)).toNat, by omega⟩
            rw [hm] at hwb ⊢
            have Hb5 := Lib.hid (Hbr.out.trans (hb5.mono Hbr.out.size))
            have Ho5 := Lib.hid (own_below Hor.out hb5)
            clear hb5 hm wk
            have er : Int.tmod (m : Int) 3 = ((m % 3 : Nat) : Int) := by rw [Int.tmod_eq_emod_of_nonneg (by omega)]; omega
            obtain ⟨j, hj0⟩ : ∃ j, m % 3 = j := ⟨_, rfl⟩
            have hj3 : j < 3 := by omega
            rw [hj0] at er
            have ew : IntKind.i64.wrap (j : Int) = (j : Int) := IntWalk.i64_in _ (by omega)
            clear hj0 hwb
            by_cases hjz : j = 0
            · have ej : ((j : Int) == 0) = true := by simp [hjz]
              obtain ⟨bb, oo, x, rfl, hx, q0, q1, q2, q3, _⟩ := ((Hv.out.below HB1.out).below Hb5.out).at_ (n := N) (k := k) (by have := HN.out; omega)
              have hxm := List.mem_of_getElem? hx
              have HX2 := Lib.hid (show ∀ r, r ∈ X ++ [x] ↔ r ∈ l from fun r => by
                rw [List.mem_append, HX.out r]
                constructor
                · rintro (h | h)
                  · exact h
                  · rw [List.mem_singleton.1 h]; exact hxm
                · exact .inl)
              clear hx hxm hjz
              go_wp2_with (at_builtin; refine wpList_append_src _ rfl (.tmp 63) (.tmp 68) 25 rfl w1.heap.size 68 i0 _ 4 32 Try.underlying25 hi0 hz0 hz1 hz2 rfl (by omega) _ n _ rfl (Ho5.out.alloc _) (some ⟨w5.heap.size, 0, none⟩) 1 1 (rdC x) rfl (src_new w5 (rdC x) 68 1 4 rfl) (by simp [rdC, Value.oneCell']) (by unfold maxLen; omega) (by omega) (Nat.le_trans Hb5.out.size (by simp)) ?_; intro v6 w6 hown6 hg6 hat6)
              have hb6 : Below w1.heap.size w1 w6 := below_grown (Hb5.out.alloc Hb5.out.size _) hg6 (Nat.le_trans Hb5.out.size (by simp)) (Ho5.out.alloc _) (Nat.le_refl _)
              obtain ⟨A6, c6, rfl⟩ := own_form hown6
              have Hb6 := Lib.hid hb6
              have Ho6 := Lib.hid hown6
              clear hown6 hg6 hat6 hb6 q0 q1 q2 q3
              go_roundw
              case rel =>
                refine ⟨k + 1, X ++ [x], A6, c6, n + 1, by omega, by rw [List.length_append, ← Hn.out]; rfl, by rw [List.length_append]; have := Hnk.out; simp; omega, HX2.out, rfl, by go_num, Hb6.out, ?_⟩
                rw [List.flatMap_append]
                simpa using Ho6.out
              case measure => simp [intOf]; omega
            · have ej : ((j : Int) == 0) = false := by simpa using hjz
              clear hjz
              go_wp2
              go_roundw
              case rel => exact ⟨k + 1, X, A2, c2, n, by omega, Hn.out, by have := Hnk.out; omega, HX.out, rfl, by go_num, Hb5.out, Ho5.out⟩
              case measure => simp [intOf]; omega
          · have ik : ¬ (k : Int) < (N : Int) := by omega
            have hrx := rds_own Hor.out
            have hz2 : ridesF t X = 0 := ridesF_sub Hz.out fun r hr => (HX.out r).1 hr
            have Hz2 := Lib.hid hz2
            have Hrx := Lib.hid hrx
            clear hrx hz2 hlt
            have HB3 := Lib.hid (HB1.out.trans (Hbr.out.mono HB1.out.size))
            have HX3 := Lib.hid ((Hbr.out.block _ (Array.getElem?_eq_some_iff.1 HX1.out).1).trans HX1.out)
            have aq := box_cells HX3.out
            have a0 := aq 0
            have a1 := aq 1
            have a2 := aq 2
            have a3 := aq 3
            have a4 := aq 4
            simp only [List.getElem?_toArray, List.getElem?_cons_zero, List.getElem?_cons_succ] at a0 a1 a2 a3 a4
            clear aq
            go_wp2_with fail
            refine (Tariff_law t _ _ _ _ (HT.out.below HB3.out) Hth.out).mono ?_
            rintro e xa4 ⟨pa4, pb4, pc4, rfl, hT4, hxa4⟩
            clear a0 a1 a2 a3 a4
            have HB5 := Lib.hid (HB3.out.trans (hxa4.mono HB3.out.size))
            have HX5 := Lib.hid ((hxa4.block _ (Array.getElem?_eq_some_iff.1 HX3.out).1).trans HX3.out)
            have Hrx := Lib.hid (Hrx.out.below hxa4)
            go_wp2_with fail
            refine (Rides_law _ _ _ (Hv.out.below HB5.out) (by have := HN.out; omega)).mono ?_
            rintro e xb4 ⟨pA4, pk4, rfl, hr4, hxb4⟩
            have hT4 := hT4.below hxb4
            have HB6 := Lib.hid (HB5.out.trans (hxb4.mono HB5.out.size))
            have HX6 := Lib.hid ((hxb4.block _ (Array.getElem?_eq_some_iff.1 HX5.out).1).trans HX5.out)
            have Hrx := Lib.hid (Hrx.out.below hxb4)
            go_wp2_with fail
            refine (Tickets_any t pa4 pb4 pc4 _ l _ hT4 hr4 (by have := HN.out; omega)).mono ?_
            rintro e xc4 ⟨hxc4, _, hg4⟩
            obtain ⟨TA4, Tk4, rfl, _⟩ := hg4 Hz.out
            obtain ⟨p4, hp4⟩ : ∃ p, (chargeT t (onceL l)).1 = p := ⟨_, rfl⟩
            rw [hp4]
            generalize (chargeT t (onceL l)).2.length = tn4
            have Hp4 := Lib.hid hp4
            clear hg4 hp4 hT4 hr4
            have HB7 := Lib.hid (HB6.out.trans (hxc4.mono HB6.out.size))
            have HX7 := Lib.hid ((hxc4.block _ (Array.getElem?_eq_some_iff.1 HX6.out).1).trans HX6.out)
            have Hrx := Lib.hid (Hrx.out.below hxc4)
            clear hxc4
            have aq := box_cells HX7.out
            have a0 := aq 0
            have a1 := aq 1
            have a2 := aq 2
            have a3 := aq 3
            have a4 := aq 4
            simp only [List.getElem?_toArray, List.getElem?_cons_zero, List.getElem?_cons_succ] at a0 a1 a2 a3 a4
            clear aq
            go_wp2_with fail
            refine (Tariff_law t _ _ _ _ (HT.out.below HB7.out) Hth.out).mono ?_
            rintro e xa8 ⟨pa8, pb8, pc8, rfl, hT8, hxa8⟩
            clear a0 a1 a2 a3 a4
            have HB9 := Lib.hid (HB7.out.trans (hxa8.mono HB7.out.size))
            have HX9 := Lib.hid ((hxa8.block _ (Array.getElem?_eq_some_iff.1 HX7.out).1).trans HX7.out)
            have Hrx := Lib.hid (Hrx.out.below hxa8)
            go_wp2_with fail
            refine (Rides_law _ _ _ (Hrx.out) (by have := Hn.out; omega)).mono ?_
            rintro e xb8 ⟨pA8, pk8, rfl, hr8, hxb8⟩
            have hT8 := hT8.below hxb8
            have HB10 := Lib.hid (HB9.out.trans (hxb8.mono HB9.out.size))
            have HX10 := Lib.hid ((hxb8.block _ (Array.getElem?_eq_some_iff.1 HX9.out).1).trans HX9.out)
            have Hrx := Lib.hid (Hrx.out.below hxb8)
            go_wp2_with fail
            refine (Tickets_any t pa8 pb8 pc8 _ X _ hT8 hr8 (by have := Hn.out; omega)).mono ?_
            rintro e xc8 ⟨hxc8, _, hg8⟩
            obtain ⟨TA8, Tk8, rfl, _⟩ := hg8 Hz2.out
            obtain ⟨p8, hp8⟩ : ∃ p, (chargeT t (onceL X)).1 = p := ⟨_, rfl⟩
            rw [hp8]
            generalize (chargeT t (onceL X)).2.length = tn8
            have Hp8 := Lib.hid hp8
            clear hg8 hp8 hT8 hr8
            have HB11 := Lib.hid (HB10.out.trans (hxc8.mono HB10.out.size))
            have HX11 := Lib.hid ((hxc8.block _ (Array.getElem?_eq_some_iff.1 HX10.out).1).trans HX10.out)
            have Hrx := Lib.hid (Hrx.out.below hxc8)
            clear hxc8
            have heq : p4 = p8 := by
              rw [← Hp4.out, ← Hp8.out]
              have ha := price_least Hz.out
              have hb := price_least Hz2.out
              have ha2 := least_mem (fun r => (HX.out r).symm) ha
              obtain ⟨⟨Y1, y1, y2⟩, y3⟩ := ha2
              obtain ⟨⟨Z1, z1, z2⟩, z3⟩ := hb
              have k1 := areTk_iff.1 y1
              have k2 := areTk_iff.1 z1
              have e1 := y3 Z1 (fun x hx => (k2.1 x hx).1) k2.2
              have e2 := z3 Y1 (fun x hx => (k1.1 x hx).1) k1.2
              rw [z2] at e1
              rw [y2] at e2
              exact Int.le_antisymm e1 e2
            have hpe : (p4 == p8) = true := by simp [heq]
            clear heq
            go_wp2_with fail
            refine (awake_any _).mono ?_
            rintro e wz12 ⟨rfl, hbz12⟩
            go_wp2
            go_ret
            exact ⟨rfl, HB11.out.trans (hbz12.mono HB11.out.size)⟩
end Go.Proofs.Ytmbkpfkkohpnkaa
