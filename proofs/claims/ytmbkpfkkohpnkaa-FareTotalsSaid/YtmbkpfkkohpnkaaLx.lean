import Derived.Test.YtmbkpfkkohpnkaaRs
import Derived.Test.YtmbkpfkkohpnkaaKd
import Derived.Test.YtmbkpfkkohpnkaaKf
set_option linter.unusedVariables false
set_option linter.unusedSimpArgs false
namespace Go.Proofs.Ytmbkpfkkohpnkaa
open Go Go.Proofs Go.RowKit

theorem range_fields : (Try.prog.fieldsOf 61).toList.map (fun f => (f.name, f.type, f.offset)) = [("Lo", 3, 0), ("Hi", 3, 1)] := by kernel_rfl
theorem range_under : Try.prog.underlying 61 = some (.struct (Try.prog.fieldsOf 61)) := by kernel_rfl
theorem range_held : Try.prog.stoodInHeld 61 = false := by kernel_rfl
theorem range_guard (w : World) (x y : Operand) (xs ys : Array Value) : (eqGuard .eql 61 x y (.agg xs) (.agg ys)).run Try.prog w = .ok () w := run_eqGuard_agg w _ _ _ _ _ _ (by kernel_rfl)
theorem range_equal (w : World) (a b c d : Int) : (Op.equal 61 (.agg #[.int .i64 a, .int .i64 b]) (.agg #[.int .i64 c, .int .i64 d])).run Try.prog w = .ok (decide (a = c) && decide (b = d)) w := by
  unfold Op.equal Op.maxDepth
  rw [run_equalIn_agg w 9999 _ _ _ range_under range_held]
  have hf := range_fields
  match h : (Try.prog.fieldsOf 61).toList with
  | [f, g] =>
    rw [h] at hf
    simp only [List.map_cons, List.map_nil, List.cons.injEq, Prod.mk.injEq, and_true] at hf
    obtain ⟨⟨n1, t1, o1⟩, n2, t2, o2⟩ := hf
    simp only [Op.eqFields, n1, n2, t1, t2, o1, o2]
    simp [go_sem]
    by_cases h1 : a = c
    · by_cases h2 : b = d
      · simp [h1, h2]
      · simp [h1, h2]
    · simp [h1]
  | [] => rw [h] at hf; simp at hf
  | [f] => rw [h] at hf; simp at hf
  | f :: g :: k :: r => rw [h] at hf; simp at hf
theorem range_same (w : World) (a b : Int) : (binOp .eql 61 (.agg #[.int .i64 a, .int .i64 b]) (.agg #[.int .i64 a, .int .i64 b])).run Try.prog w = .ok (.bool true) w := by
  simp only [binOp, Sem.run_bind, range_equal, Result.andThen_ok, Sem.run_pure]
  simp
theorem card_ok {t : Tar} {l : List Tp} {cs : List Int} (h : TapsOk t l cs) {c : Nat} (hc : c < 10) : ridesF t (ridesC l c) = 0 := by
  have hr := h.rode hc
  exact ridesF_none hr.tar (by have := hr.len; omega) fun x hx => hr.ride x (mem_onceL.2 hx)
theorem due_cell {w : World} {base : Nat} {e : TypeId} {A : Option Addr} {k c : Nat} {xs : List Value} {u : Value} (h : w.ownsRow base e 1 (.slice A (k + 1) c) (k + 1) (xs ++ [u])) (hl : xs.length = k) : ∃ g, A = some ⟨g, 0, none⟩ ∧ w.cell? ⟨g, k, none⟩ = some u := by
  rcases h.2 with ⟨_, h0⟩ | ⟨g, cap, cur, e9, _⟩
  · omega
  · rw [Value.slice.injEq] at e9
    obtain ⟨rfl, _, rfl⟩ := e9
    refine ⟨g, rfl, ?_⟩
    rw [h.cellAt k (by omega), List.getElem?_append_right (by omega)]
    simp [hl]
set_option maxRecDepth 100000 in
set_option maxHeartbeats 8000000 in
theorem Totals_law (t : Tar) (a b c v z : Value) (l : List Tp) (cs : List Int) (w : World) (hT : TarAt w a b c t) (hv : TpsAt w v l) (hc : NumsAt .i64 w z cs) :
    Calls Try.prog 5 #[.agg #[.int .i64 t.zones, a, b, c, .int .i64 t.window], v, z] w (Gives w (.bool true)) := by
  obtain ⟨i0, hi0, hz0, hz1, hz2⟩ := info_parts infoI
  obtain ⟨Av, cv, rfl, _, _⟩ := hv.form
  obtain ⟨Az, cz, rfl, _, _⟩ := hc.form
  obtain ⟨N, hN⟩ : ∃ N, l.length = N := ⟨_, rfl⟩
  obtain ⟨M, hM⟩ : ∃ M, cs.length = M := ⟨_, rfl⟩
  rw [hN] at hv ⊢
  rw [hM] at hc ⊢
  have HN := Lib.hid hN
  have HM := Lib.hid hM
  have HT := Lib.hid hT
  have Hv := Lib.hid hv
  have Hc := Lib.hid hc
  clear hT hv hc hN hM
  go_enter Try.func5, Try.ntmps5
  go_upto_region 1 with (fail)
  refine wp_name (fun W => Below w.heap.size w W ∧ W.heap[w.heap.size]? = some (.cells #[.int .i64 t.zones, a, b, c, .int .i64 t.window] 24 (0, 0))) ⟨(Below.refl _ _).alloc (Nat.le_refl _) _, heap_alloc_new w _⟩ (fun W0 hW => ?_)
  obtain ⟨hb0, hx0⟩ := hW
  have HB0 := Lib.hid hb0
  have HX0 := Lib.hid hx0
  clear hb0 hx0
  have aq := box_cells HX0.out
  have a0 := aq 0
  have a1 := aq 1
  have a2 := aq 2
  have a3 := aq 3
  have a4 := aq 4
  simp only [List.getElem?_toArray, List.getElem?_cons_zero, List.getElem?_cons_succ] at a0 a1 a2 a3 a4
  clear aq
  go_wp2_with fail
  refine (Thin_any t a b c W0 (HT.out.below HB0.out)).mono ?_
  rintro e w1 ⟨rfl, hb1⟩
  clear a0 a1 a2 a3 a4
  have HB1 := Lib.hid (HB0.out.trans (hb1.mono HB0.out.size))
  have HX1 := Lib.hid ((hb1.block _ (Array.getElem?_eq_some_iff.1 HX0.out).1).trans HX0.out)
  clear hb1
  cases hth : thinB t with
  | false =>
    clear hth
    go_wp2_with fail
    refine (awake_any _).mono ?_
    rintro e wz2 ⟨rfl, hbz2⟩
    go_wp2
    go_ret
    exact ⟨rfl, HB1.out.trans (hbz2.mono HB1.out.size)⟩
  | true =>
    have Hth := Lib.hid hth
    clear hth
    by_cases h45 : 45 < N
    · have i45 : (45 : Int) < (N : Int) := by omega
      clear h45
      go_wp2_with fail
      refine (awake_any _).mono ?_
      rintro e wz3 ⟨rfl, hbz3⟩
      go_wp2
      go_ret
      exact ⟨rfl, HB1.out.trans (hbz3.mono HB1.out.size)⟩
    have i45 : ¬ (45 : Int) < (N : Int) := by omega
    have hN45 : N ≤ 45 := by omega
    clear h45
    by_cases h6 : 6 < M
    · have i6 : (6 : Int) < (M : Int) := by omega
      clear h6
      go_wp2_with fail
      refine (awake_any _).mono ?_
      rintro e wz4 ⟨rfl, hbz4⟩
      go_wp2
      go_ret
      exact ⟨rfl, HB1.out.trans (hbz4.mono HB1.out.size)⟩
    have i6 : ¬ (6 : Int) < (M : Int) := by omega
    have hM6 : M ≤ 6 := by omega
    clear h6
    obtain ⟨F, hF⟩ : ∃ F, tapsF t l cs = F := ⟨_, rfl⟩
    have HF := Lib.hid hF
    clear hF
    have aq := box_cells HX1.out
    have a0 := aq 0
    have a1 := aq 1
    have a2 := aq 2
    have a3 := aq 3
    have a4 := aq 4
    simp only [List.getElem?_toArray, List.getElem?_cons_zero, List.getElem?_cons_succ] at a0 a1 a2 a3 a4
    clear aq
    go_wp2_with fail
    refine (taps_law t a b c _ _ l cs _ (HT.out.below HB1.out) (Hv.out.below HB1.out) (Hc.out.below HB1.out) (by have := HN.out; omega)).mono ?_
    rintro e xw ⟨rfl, hxw⟩
    rw [HF.out]
    clear a0 a1 a2 a3 a4
    have HB5 := Lib.hid (HB1.out.trans (hxw.mono HB1.out.size))
    have HX5 := Lib.hid ((hxw.block _ (Array.getElem?_eq_some_iff.1 HX1.out).1).trans HX1.out)
    clear hxw
    by_cases h0 : F = 0
    rotate_left
    · have e0 : (F == 0) = false := by simpa using h0
      have e1 : (F != 0) = true := by simpa using h0
      go_wp2
      go_loopw [8, 9, 10] (fun ss sd sc wr => ss = .int .i64 0 ∧ sd = .slice none 0 0 ∧ sc = .int .i64 0 ∧ Below xw.heap.size xw wr) (fun _ _ _ _ => 0)
      case atStart => exact ⟨rfl, rfl, rfl, Below.refl _ _⟩
      case round =>
        obtain ⟨rfl, rfl, rfl, hbr⟩ := hrel
        have HB6 := Lib.hid (HB5.out.trans (hbr.mono HB5.out.size))
        have HX6 := Lib.hid ((hbr.block _ (Array.getElem?_eq_some_iff.1 HX5.out).1).trans HX5.out)
        have aq := box_cells HX6.out
        have a0 := aq 0
        have a1 := aq 1
        have a2 := aq 2
        have a3 := aq 3
        have a4 := aq 4
        simp only [List.getElem?_toArray, List.getElem?_cons_zero, List.getElem?_cons_succ] at a0 a1 a2 a3 a4
        clear aq
        go_wp2_with fail
        refine (Tariff_law t a b c _ (HT.out.below HB6.out) Hth.out).mono ?_
        rintro e xa7 ⟨pa7, pb7, pc7, rfl, hT7, hxa7⟩
        clear a0 a1 a2 a3 a4
        have HB8 := Lib.hid (HB6.out.trans (hxa7.mono HB6.out.size))
        have HX8 := Lib.hid ((hxa7.block _ (Array.getElem?_eq_some_iff.1 HX6.out).1).trans HX6.out)
        go_wp2_with fail
        refine (Taps_law _ l _ (Hv.out.below HB8.out) (by have := HN.out; omega)).mono ?_
        rintro e xb7 ⟨pA7, pk7, rfl, hr7, hxb7⟩
        have hT7 := hT7.below hxb7
        have HB9 := Lib.hid (HB8.out.trans (hxb7.mono HB8.out.size))
        have HX9 := Lib.hid ((hxb7.block _ (Array.getElem?_eq_some_iff.1 HX8.out).1).trans HX8.out)
        go_wp2_with fail
        refine (copy_any _ cs _ (Hc.out.below HB9.out) (by have := HM.out; omega)).mono ?_
        rintro e xd7 ⟨pB7, pq7, rfl, ho7, hxd7⟩
        have hT7 := hT7.below hxd7
        have hr7 := hr7.below hxd7
        have hz7 := nums_of_own ho7
        have HB10 := Lib.hid (HB9.out.trans (hxd7.mono HB9.out.size))
        have HX10 := Lib.hid ((hxd7.block _ (Array.getElem?_eq_some_iff.1 HX9.out).1).trans HX9.out)
        go_wp2_with fail
        refine (Charges_any t pa7 pb7 pc7 _ _ l cs _ hT7 hr7 hz7 (by have := HN.out; omega)).mono ?_
        rintro e xm ⟨hxm, hbad, _⟩
        have hbb := hbad (by rw [HF.out]; exact h0)
        rw [HF.out] at hbb
        subst hbb
        clear hbad hT7 hr7 hz7 ho7
        have HB11 := Lib.hid (HB10.out.trans (hxm.mono HB10.out.size))
        have HX11 := Lib.hid ((hxm.block _ (Array.getElem?_eq_some_iff.1 HX10.out).1).trans HX10.out)
        have aq := box_cells HX11.out
        have a0 := aq 0
        have a1 := aq 1
        have a2 := aq 2
        have a3 := aq 3
        have a4 := aq 4
        simp only [List.getElem?_toArray, List.getElem?_cons_zero, List.getElem?_cons_succ] at a0 a1 a2 a3 a4
        clear aq
        go_wp2_with fail
        refine (Tariff_law t a b c _ (HT.out.below HB11.out) Hth.out).mono ?_
        rintro e xa12 ⟨pa12, pb12, pc12, rfl, hT12, hxa12⟩
        clear a0 a1 a2 a3 a4
        have HB13 := Lib.hid (HB11.out.trans (hxa12.mono HB11.out.size))
        have HX13 := Lib.hid ((hxa12.block _ (Array.getElem?_eq_some_iff.1 HX11.out).1).trans HX11.out)
        go_wp2_with fail
        refine (Taps_law _ l _ (Hv.out.below HB13.out) (by have := HN.out; omega)).mono ?_
        rintro e xb12 ⟨pA12, pk12, rfl, hr12, hxb12⟩
        have hT12 := hT12.below hxb12
        have HB14 := Lib.hid (HB13.out.trans (hxb12.mono HB13.out.size))
        have HX14 := Lib.hid ((hxb12.block _ (Array.getElem?_eq_some_iff.1 HX13.out).1).trans HX13.out)
        go_wp2_with fail
        refine (copy_any _ cs _ (Hc.out.below HB14.out) (by have := HM.out; omega)).mono ?_
        rintro e xd12 ⟨pB12, pq12, rfl, ho12, hxd12⟩
        have hT12 := hT12.below hxd12
        have hr12 := hr12.below hxd12
        have hz12 := nums_of_own ho12
        have HB15 := Lib.hid (HB14.out.trans (hxd12.mono HB14.out.size))
        have HX15 := Lib.hid ((hxd12.block _ (Array.getElem?_eq_some_iff.1 HX14.out).1).trans HX14.out)
        go_wp2_with fail
        refine (Total_any t pa12 pb12 pc12 _ _ l cs _ hT12 hr12 hz12 (by have := HN.out; omega)).mono ?_
        rintro e xt ⟨hxt, hbad, _⟩
        have hbb := hbad (by rw [HF.out]; exact h0)
        rw [HF.out] at hbb
        subst hbb
        clear hbad hT12 hr12 hz12 ho12
        have HB16 := Lib.hid (HB15.out.trans (hxt.mono HB15.out.size))
        have HX16 := Lib.hid ((hxt.block _ (Array.getElem?_eq_some_iff.1 HX15.out).1).trans HX15.out)
        go_upto_region 16 with (fail)
        refine wp_name (fun V => Below xt.heap.size xt V ∧ V.heap[xt.heap.size]? = some (.cells #[.int .i64 0, .int .i64 0] 61 (0, 0))) ⟨(Below.refl _ _).alloc (Nat.le_refl _) _, heap_alloc_new xt _⟩ (fun V hV => ?_)
        obtain ⟨hbV, hRV⟩ := hV
        have HRV := Lib.hid hRV
        have HB18 := Lib.hid (HB16.out.trans (hbV.mono HB16.out.size))
        have HX18 := Lib.hid ((hbV.block _ (Array.getElem?_eq_some_iff.1 HX16.out).1).trans HX16.out)
        clear hbV hRV
        generalize xt.heap.size = RB at *
        have rq := box_cells HRV.out
        have r0 := rq 0
        have r1 := rq 1
        simp only [List.getElem?_toArray, List.getElem?_cons_zero, List.getElem?_cons_succ] at r0 r1
        clear rq
        have qe := range_same
        have qg := range_guard
        have HW := Lib.hid HRV.out
        clear HW
        go_wp2_with fail
        refine (awake_any _).mono ?_
        rintro e wz19 ⟨rfl, hbz19⟩
        go_wp2
        go_ret
        exact ⟨rfl, HB18.out.trans (hbz19.mono HB18.out.size)⟩
    have hok := tapsF_ok.1 (HF.out.trans h0)
    have hM4 : M = 4 := HM.out.symm.trans hok.four
    have Hok := Lib.hid hok
    have HM4 := Lib.hid hM4
    have Hht := Lib.hid hok.tar
    subst h0
    clear hok hM4
    go_wp2
    go_loopw [8, 9, 10] (fun ss sd sc wr => ∃ (k : Nat) (A : Option Addr) (q : Nat), k ≤ 10 ∧ ss = .int .i64 (sumI (duesN t l k)) ∧ sd = .slice A k q ∧ sc = .int .i64 (k : Int) ∧ Below xw.heap.size xw wr ∧ wr.ownsRow xw.heap.size 3 1 (.slice A k q) k ((duesN t l k).map (Value.int .i64))) (fun ss sd sc wr => 10 - (intOf sc).toNat)
    case atStart => exact ⟨0, none, 0, by omega, rfl, rfl, rfl, Below.refl _ _, World.ownsRow_nil _ _ _ _⟩
    case round =>
      obtain ⟨k, A, q, hk, rfl, rfl, rfl, hbr, hor⟩ := hrel
      have Hbr := Lib.hid hbr
      have Hor := Lib.hid hor
      clear hbr hor
      by_cases hlt : k < 10
      · have ik : (k : Int) < 10 := by omega
        have HB20 := Lib.hid (HB5.out.trans (Hbr.out.mono HB5.out.size))
        have HX20 := Lib.hid ((Hbr.out.block _ (Array.getElem?_eq_some_iff.1 HX5.out).1).trans HX5.out)
        go_wp2_with fail
        refine (Rides_ref _ l (k : Int) _ (Hv.out.below HB20.out) (by have := HN.out; omega)).mono ?_
        rintro e xo ⟨oA, oc, rfl, hro, hxo⟩
        obtain ⟨U, hU⟩ : ∃ U, (uniqL (ridesC l (k : Int))).length = U := ⟨_, rfl⟩
        rw [hU] at hro ⊢
        have HU := Lib.hid hU
        have Hro := Lib.hid hro
        have Hor2 := Lib.hid (own_below Hor.out hxo)
        have Hbo := Lib.hid (Hbr.out.trans (hxo.mono Hbr.out.size))
        clear hU hro
        have HB21 := Lib.hid (HB20.out.trans (hxo.mono HB20.out.size))
        have HX21 := Lib.hid ((hxo.block _ (Array.getElem?_eq_some_iff.1 HX20.out).1).trans HX20.out)
        clear hxo
        by_cases h5 : 5 < U
        · have i5 : (5 : Int) < (U : Int) := by omega
          clear h5
          go_wp2_with fail
          refine (awake_any _).mono ?_
          rintro e wz22 ⟨rfl, hbz22⟩
          go_wp2
          go_ret
          exact ⟨rfl, HB21.out.trans (hbz22.mono HB21.out.size)⟩
        have i5 : ¬ (5 : Int) < (U : Int) := by omega
        have hU5 : U ≤ 5 := by omega
        clear h5
        have hrf := card_ok Hok.out hlt
        have hcr := charge_uniq hrf
        have hall := (ridesF_all hrf).2.2
        have hds := duesN_succ t l k
        have hpb := price_bd2 hrf
        have hsd := sumI_bd (B := 120000) (l := duesN t l k) (fun x hx => by
          unfold duesN at hx
          obtain ⟨c, hc, rfl⟩ := List.mem_map.1 hx
          exact price_bd2 (card_ok Hok.out (c := c) (by have := List.mem_range.1 hc; omega)))
        rw [duesN_len] at hsd
        obtain ⟨p, hp⟩ : ∃ p, priceL t (ridesC l (k : Int)) = p := ⟨_, rfl⟩
        have hp' : (chargeT t (onceL (ridesC l (k : Int)))).1 = p := hp
        rw [hp] at hcr hpb
        rw [hp'] at hds
        have hss : sumI (duesN t l (k + 1)) = sumI (duesN t l k) + p := by rw [hds, sumI_append]; simp [sumI]
        obtain ⟨sm, hsm⟩ : ∃ sm, sumI (duesN t l k) = sm := ⟨_, rfl⟩
        rw [hsm] at hss hsd ⊢
        have Hds := Lib.hid hds
        have Hss := Lib.hid hss
        have Hcr := Lib.hid hcr
        have Hall := Lib.hid (show ∀ r ∈ uniqL (ridesC l (k : Int)), rideB t r = true from fun r hr => hall r (mem_uniqL.1 hr))
        have qs : IntKind.i64.wrap (sm + p) = sm + p := IntWalk.i64_in _ (by omega)
        clear hrf hcr hall hds hp hp' hss hsm hpb hsd
        have aq := box_cells HX21.out
        have a0 := aq 0
        have a1 := aq 1
        have a2 := aq 2
        have a3 := aq 3
        have a4 := aq 4
        simp only [List.getElem?_toArray, List.getElem?_cons_zero, List.getElem?_cons_succ] at a0 a1 a2 a3 a4
        clear aq
        go_wp2_with fail
        refine (Charge_ref t Hht.out (uniqL (ridesC l (k : Int))) Hall.out [] a b c _ _ _ (HT.out.below HB21.out) Hro.out (GsAt.nil _ none 0 (by simp [maxLen])) (fit_nil (by have := HU.out; omega))).mono ?_
        rintro e xq ⟨rfl, hxq⟩
        rw [Hcr.out]
        have Hor3 := Lib.hid (own_below Hor2.out hxq)
        have Hbq := Lib.hid (Hbo.out.trans (hxq.mono Hbo.out.size))
        clear a0 a1 a2 a3 a4
        have HB23 := Lib.hid (HB21.out.trans (hxq.mono HB21.out.size))
        have HX23 := Lib.hid ((hxq.block _ (Array.getElem?_eq_some_iff.1 HX21.out).1).trans HX21.out)
        clear hxq
        go_wp2_with (at_builtin; refine wpList_append_src _ rfl (.tmp 51) (.tmp 55) 22 rfl xw.heap.size 3 i0 _ 1 8 Try.underlying22 hi0 hz0 hz1 hz2 rfl (by omega) _ k _ rfl (Hor3.out.alloc _) (some ⟨xq.heap.size, 0, none⟩) 1 1 [.int .i64 p] rfl (src_new xq [.int .i64 p] 3 1 1 rfl) (by simp [Value.oneCell']) (by simp [maxLen]; omega) (by omega) (Nat.le_trans Hbq.out.size (by simp)) ?_; intro v6 w6 hown6 hg6 hat6; obtain ⟨A6, c6, rfl⟩ := own_form hown6; have hb6 : Below xw.heap.size xw w6 := below_grown (Hbq.out.alloc Hbq.out.size _) hg6 (Nat.le_trans Hbq.out.size (by simp)) (Hor3.out.alloc _) (Nat.le_refl _); have d6 : ∃ g6, A6 = some ⟨g6, 0, none⟩ ∧ w6.cell? ⟨g6, k, none⟩ = some (.int .i64 p) := (due_cell hown6 (by rw [List.length_map, duesN_len])); obtain ⟨g6, rfl, d6⟩ := d6)
        have Hb6 := Lib.hid hb6
        have Ho6 := Lib.hid hown6
        clear hown6 hg6 hat6 hb6
        have ik6 : (k : Int) < ((k + 1 : Nat) : Int) := by omega
        go_wp2
        go_roundw
        case rel =>
          refine ⟨k + 1, some ⟨g6, 0, none⟩, c6, by omega, by rw [Hss.out], rfl, by go_num, Hb6.out, ?_⟩
          rw [Hds.out, List.map_append]
          exact Ho6.out
        case measure => simp [intOf]; omega
      · have ik : ¬ (k : Int) < 10 := by omega
        have hke : k = 10 := by omega
        subst hke
        have hdl : duesN t l 10 = duesL t l := rfl
        have hsl : sumI (duesN t l 10) = totalLo t l := rfl
        have hor := Hor.out
        rw [hdl] at hor
        rw [hsl]
        have Hor2 := Lib.hid hor
        clear hor hdl hsl Hor
        have HB24 := Lib.hid (HB5.out.trans (Hbr.out.mono HB5.out.size))
        have HX24 := Lib.hid ((Hbr.out.block _ (Array.getElem?_eq_some_iff.1 HX5.out).1).trans HX5.out)
        have Hdu := Lib.hid (nums_of_own Hor2.out)
        clear Hor2
        have aq := box_cells HX24.out
        have a0 := aq 0
        have a1 := aq 1
        have a2 := aq 2
        have a3 := aq 3
        have a4 := aq 4
        simp only [List.getElem?_toArray, List.getElem?_cons_zero, List.getElem?_cons_succ] at a0 a1 a2 a3 a4
        clear aq
        go_wp2_with fail
        refine (Tariff_law t a b c _ (HT.out.below HB24.out) Hth.out).mono ?_
        rintro e xa25 ⟨pa25, pb25, pc25, rfl, hT25, hxa25⟩
        clear a0 a1 a2 a3 a4
        have HB26 := Lib.hid (HB24.out.trans (hxa25.mono HB24.out.size))
        have HX26 := Lib.hid ((hxa25.block _ (Array.getElem?_eq_some_iff.1 HX24.out).1).trans HX24.out)
        have Hdu := Lib.hid (Hdu.out.below hxa25)
        go_wp2_with fail
        refine (Taps_law _ l _ (Hv.out.below HB26.out) (by have := HN.out; omega)).mono ?_
        rintro e xb25 ⟨pA25, pk25, rfl, hr25, hxb25⟩
        have hT25 := hT25.below hxb25
        have HB27 := Lib.hid (HB26.out.trans (hxb25.mono HB26.out.size))
        have HX27 := Lib.hid ((hxb25.block _ (Array.getElem?_eq_some_iff.1 HX26.out).1).trans HX26.out)
        have Hdu := Lib.hid (Hdu.out.below hxb25)
        go_wp2_with fail
        refine (copy_any _ cs _ (Hc.out.below HB27.out) (by have := HM.out; omega)).mono ?_
        rintro e xd25 ⟨pB25, pq25, rfl, ho25, hxd25⟩
        have hT25 := hT25.below hxd25
        have hr25 := hr25.below hxd25
        have hz25 := nums_of_own ho25
        have HB28 := Lib.hid (HB27.out.trans (hxd25.mono HB27.out.size))
        have HX28 := Lib.hid ((hxd25.block _ (Array.getElem?_eq_some_iff.1 HX27.out).1).trans HX27.out)
        have Hdu := Lib.hid (Hdu.out.below hxd25)
        go_wp2_with fail
        refine (Charges_any t pa25 pb25 pc25 _ _ l cs _ hT25 hr25 hz25 (by have := HN.out; omega)).mono ?_
        rintro e xm ⟨hxm, _, hgood⟩
        obtain ⟨mA, mk, rfl, hnm⟩ := hgood HF.out
        rw [duesL_len] at hnm ⊢
        have Hnm := Lib.hid hnm
        clear hgood hnm hT25 hr25 hz25 ho25
        have HB29 := Lib.hid (HB28.out.trans (hxm.mono HB28.out.size))
        have HX29 := Lib.hid ((hxm.block _ (Array.getElem?_eq_some_iff.1 HX28.out).1).trans HX28.out)
        have Hdu := Lib.hid (Hdu.out.below hxm)
        have aq := box_cells HX29.out
        have a0 := aq 0
        have a1 := aq 1
        have a2 := aq 2
        have a3 := aq 3
        have a4 := aq 4
        simp only [List.getElem?_toArray, List.getElem?_cons_zero, List.getElem?_cons_succ] at a0 a1 a2 a3 a4
        clear aq
        go_wp2_with fail
        refine (Tariff_law t a b c _ (HT.out.below HB29.out) Hth.out).mono ?_
        rintro e xa30 ⟨pa30, pb30, pc30, rfl, hT30, hxa30⟩
        clear a0 a1 a2 a3 a4
        have HB31 := Lib.hid (HB29.out.trans (hxa30.mono HB29.out.size))
        have HX31 := Lib.hid ((hxa30.block _ (Array.getElem?_eq_some_iff.1 HX29.out).1).trans HX29.out)
        have Hdu := Lib.hid (Hdu.out.below hxa30)
        have Hnm := Lib.hid (Hnm.out.below hxa30)
        go_wp2_with fail
        refine (Taps_law _ l _ (Hv.out.below HB31.out) (by have := HN.out; omega)).mono ?_
        rintro e xb30 ⟨pA30, pk30, rfl, hr30, hxb30⟩
        have hT30 := hT30.below hxb30
        have HB32 := Lib.hid (HB31.out.trans (hxb30.mono HB31.out.size))
        have HX32 := Lib.hid ((hxb30.block _ (Array.getElem?_eq_some_iff.1 HX31.out).1).trans HX31.out)
        have Hdu := Lib.hid (Hdu.out.below hxb30)
        have Hnm := Lib.hid (Hnm.out.below hxb30)
        go_wp2_with fail
        refine (copy_any _ cs _ (Hc.out.below HB32.out) (by have := HM.out; omega)).mono ?_
        rintro e xd30 ⟨pB30, pq30, rfl, ho30, hxd30⟩
        have hT30 := hT30.below hxd30
        have hr30 := hr30.below hxd30
        have hz30 := nums_of_own ho30
        have HB33 := Lib.hid (HB32.out.trans (hxd30.mono HB32.out.size))
        have HX33 := Lib.hid ((hxd30.block _ (Array.getElem?_eq_some_iff.1 HX32.out).1).trans HX32.out)
        have Hdu := Lib.hid (Hdu.out.below hxd30)
        have Hnm := Lib.hid (Hnm.out.below hxd30)
        go_wp2_with fail
        refine (Total_any t pa30 pb30 pc30 _ _ l cs _ hT30 hr30 hz30 (by have := HN.out; omega)).mono ?_
        rintro e xt ⟨hxt, _, hgood⟩
        obtain rfl := hgood HF.out
        have hlb := sumI_bd (B := 120000) (dues_bd Hok.out)
        rw [duesL_len] at hlb
        have hdb := dea_bd Hht.out
        have hnb := lostL_bd (B := 50) (miss_bd Hok.out)
        have hml : (missLL l cs).length = 4 := by simp [missLL, Hok.out.four]
        rw [hml] at hnb
        have hhi : totalHi t l cs = totalLo t l + (lostL (missLL l cs) : Int) * deaT t := rfl
        obtain ⟨lo, hlo⟩ : ∃ x, totalLo t l = x := ⟨_, rfl⟩
        obtain ⟨hi, hhi2⟩ : ∃ x, totalHi t l cs = x := ⟨_, rfl⟩
        have hlb' : 0 ≤ lo ∧ lo ≤ 1200000 := by rw [← hlo]; unfold totalLo; omega
        obtain ⟨de, hde⟩ : ∃ x, deaT t = x := ⟨_, rfl⟩
        rw [hlo, hhi2, hde] at hhi
        rw [hde] at hdb
        rw [hlo, hhi2]
        have Hhi := Lib.hid hhi
        have Hde := Lib.hid hde
        have Hml := Lib.hid hml
        have Hlb := Lib.hid hlb'
        have Hdb := Lib.hid hdb
        have Hnb := Lib.hid hnb
        clear hgood hT30 hr30 hz30 ho30 hlb hlb' hdb hnb hml hhi hlo hhi2 hde
        have HB34 := Lib.hid (HB33.out.trans (hxt.mono HB33.out.size))
        have HX34 := Lib.hid ((hxt.block _ (Array.getElem?_eq_some_iff.1 HX33.out).1).trans HX33.out)
        have Hdu := Lib.hid (Hdu.out.below hxt)
        have Hnm := Lib.hid (Hnm.out.below hxt)
        go_upto_region 16 with (fail)
        refine wp_name (fun V => Below xt.heap.size xt V ∧ V.heap[xt.heap.size]? = some (.cells #[.int .i64 lo, .int .i64 hi] 61 (0, 0))) ⟨(Below.refl _ _).alloc (Nat.le_refl _) _, heap_alloc_new xt _⟩ (fun V hV => ?_)
        obtain ⟨hbV, hRV⟩ := hV
        have HRV := Lib.hid hRV
        have HB36 := Lib.hid (HB34.out.trans (hbV.mono HB34.out.size))
        have HX36 := Lib.hid ((hbV.block _ (Array.getElem?_eq_some_iff.1 HX34.out).1).trans HX34.out)
        have Hdu := Lib.hid (Hdu.out.below hbV)
        have Hnm := Lib.hid (Hnm.out.below hbV)
        clear hbV hRV
        generalize xt.heap.size = RB at *
        have rq := box_cells HRV.out
        have r0 := rq 0
        have r1 := rq 1
        simp only [List.getElem?_toArray, List.getElem?_cons_zero, List.getElem?_cons_succ] at r0 r1
        clear rq
        have qe := range_same
        have qg := range_guard
        clear r0 r1 qe qg
        go_wp2
        go_loopw [16, 17] (fun sn sm wr => ∃ m : Nat, m ≤ 4 ∧ sn = .int .i64 ((lostL ((missLL l cs).take m) : Nat) : Int) ∧ sm = .int .i64 (m : Int) ∧ Below V.heap.size V wr) (fun sn sm wr => 4 - (intOf sm).toNat)
        case atStart => exact ⟨0, by omega, rfl, rfl, Below.refl _ _⟩
        case round =>
          obtain ⟨m, hm, rfl, rfl, hbl⟩ := hrel
          have Hbl := Lib.hid hbl
          clear hbl
          by_cases hlm : m < 4
          · have im : (m : Int) < 4 := by omega
            obtain ⟨bz, oz, x, rfl, hx, dx, _⟩ := ((Hc.out.below HB36.out).below Hbl.out).at_ (n := M) (k := m) (by have := HM.out; have := HM4.out; omega)
            have imM : (m : Int) < (M : Int) := by have := HM4.out; omega
            have hcx : cntAt cs (m : Int) = x := by unfold cntAt; rw [Int.toNat_natCast, hx]; rfl
            have hxb := Hok.out.cnt x (List.mem_of_getElem? hx)
            obtain ⟨xn, rfl⟩ : ∃ xn : Nat, x = (xn : Int) := ⟨x.toNat, by omega⟩
            have h1 : (missLL l cs)[m]? = some (missL l (m : Int) (xn : Int)) := by
              unfold missLL
              rw [List.getElem?_map, List.getElem?_range (by have := HM.out; have := HM4.out; omega), ← hcx]
              rfl
            have hst := lostL_take (missLL l cs) h1
            have hnl : (missL l (m : Int) (xn : Int)).length ≤ 50 := miss_bd Hok.out _ (List.mem_of_getElem? h1)
            have hll := lostL_bd (B := 50) (l := (missLL l cs).take m) (fun y hy => miss_bd Hok.out y (List.mem_of_mem_take hy))
            have hl4 : ((missLL l cs).take m).length ≤ 4 := by rw [List.length_take]; omega
            have hl5 : 50 * ((missLL l cs).take m).length ≤ 200 := by omega
            obtain ⟨ln, hln⟩ : ∃ x, lostL ((missLL l cs).take m) = x := ⟨_, rfl⟩
            obtain ⟨mn, hmn⟩ : ∃ x, (missL l (m : Int) (xn : Int)).length = x := ⟨_, rfl⟩
            rw [hln, hmn] at hst
            rw [hln] at hll ⊢
            rw [hmn] at hnl
            have Hst := Lib.hid hst
            have Hmn := Lib.hid hmn
            have q2 : IntKind.i64.wrap ((ln : Int) + (mn : Int)) = ((ln + mn : Nat) : Int) := by rw [IntWalk.i64_in _ (by omega)]; omega
            clear hx hcx h1 hst hln hmn hll
            go_wp2_with fail
            refine (Missing_ref _ l (m : Int) xn _ ((Hv.out.below HB36.out).below Hbl.out) (by have := HN.out; omega) (by omega)).mono ?_
            rintro e w5 ⟨A5, c5, rfl, ho5, hb5⟩
            rw [Hmn.out]
            have Hb5 := Lib.hid (Hbl.out.trans (hb5.mono Hbl.out.size))
            clear ho5 hb5 dx
            go_wp2
            go_roundw
            case rel => exact ⟨m + 1, by omega, by rw [Hst.out, Int.natCast_add], by go_num, Hb5.out⟩
            case measure => simp [intOf]; omega
          · have im : ¬ (m : Int) < 4 := by omega
            have hme : m = 4 := by omega
            have hta : (missLL l cs).take m = missLL l cs := List.take_of_length_le (by rw [Hml.out]; omega)
            rw [hta, hme]
            obtain ⟨ln, hln⟩ : ∃ x, lostL (missLL l cs) = x := ⟨_, rfl⟩
            have hhi := Hhi.out
            have hnb := Hnb.out
            have hdb := Hdb.out
            have hlb := Hlb.out
            rw [hln] at hhi hnb
            rw [hln]
            have hmd : 0 ≤ (ln : Int) * de ∧ (ln : Int) * de ≤ 2000000 := by
              refine ⟨Int.mul_nonneg (by omega) hdb.1, ?_⟩
              have h1 : (ln : Int) * de ≤ 200 * de := Int.mul_le_mul_of_nonneg_right (by omega) hdb.1
              omega
            have q3 : IntKind.i64.wrap ((ln : Int) * de) = (ln : Int) * de := IntWalk.i64_in _ (by omega)
            have q4 : IntKind.i64.wrap (lo + (ln : Int) * de) = hi := by rw [IntWalk.i64_in _ (by omega)]; exact hhi.symm
            have im4 : ¬ ((4 : Nat) : Int) < 4 := by omega
            clear hta hme hln hnb hdb hlb hmd hhi
            have Hdu := Lib.hid (Hdu.out.below Hbl.out)
            have Hnm := Lib.hid (Hnm.out.below Hbl.out)
            have HRl := Lib.hid ((Hbl.out.block _ (Array.getElem?_eq_some_iff.1 HRV.out).1).trans HRV.out)
            have HBl := Lib.hid (HB36.out.trans (Hbl.out.mono HB36.out.size))
            have HXl := Lib.hid ((Hbl.out.block _ (Array.getElem?_eq_some_iff.1 HX36.out).1).trans HX36.out)
            have aq := box_cells HXl.out
            have a0 := aq 0
            have a1 := aq 1
            have a2 := aq 2
            have a3 := aq 3
            have a4 := aq 4
            simp only [List.getElem?_toArray, List.getElem?_cons_zero, List.getElem?_cons_succ] at a0 a1 a2 a3 a4
            clear aq
            have rq := box_cells HRl.out
            have r0 := rq 0
            have r1 := rq 1
            simp only [List.getElem?_toArray, List.getElem?_cons_zero, List.getElem?_cons_succ] at r0 r1
            clear rq
            have qe := range_same
            have qg := range_guard
            obtain ⟨wl, hwl⟩ : ∃ V, V = wr := ⟨_, rfl⟩
            rw [← hwl] at Hdu Hnm HBl HXl a0 a1 a2 a3 a4 r0 r1 ⊢
            clear hwl
            go_upto_region 23 with (fail)
            refine wp_region_noPanic ?_
            refine wp_region_ph [([0, 1, 2, 3, 4, 5, 6, 7, 8], [9]), ([10, 11, 12, 13, 14, 15, 16], [17]), ([18, 19, 20, 21, 22, 23], [24]), ([25, 26], [])] (fun _ => true) (fun w' => Below wl.heap.size wl w') (by kernel_rfl) (by kernel_rfl) (fun _ _ _ _ _ h => h) ?_
            have hd : Below wl.heap.size wl wl.drew := (Below.refl _ _).drew
            have Acc0 := Lib.hid hd
            obtain ⟨wd, hwd⟩ : ∃ W, W = wl.drew := ⟨_, rfl⟩
            rw [← hwd] at hd Acc0 ⊢
            clear hwd hd
            refine wpPh_cons Acc0.out (fun hne => ?_)
            have n0 := fun x : Meets (fun w' => Below wl.heap.size wl w') => cell_below x.property a0
            have n1 := fun x : Meets (fun w' => Below wl.heap.size wl w') => cell_below x.property a1
            have n2 := fun x : Meets (fun w' => Below wl.heap.size wl w') => cell_below x.property a2
            have n3 := fun x : Meets (fun w' => Below wl.heap.size wl w') => cell_below x.property a3
            have n4 := fun x : Meets (fun w' => Below wl.heap.size wl w') => cell_below x.property a4
            have n5 := fun x : Meets (fun w' => Below wl.heap.size wl w') => cell_below x.property r0
            have n6 := fun x : Meets (fun w' => Below wl.heap.size wl w') => cell_below x.property r1
            simp only [pick, pickN, List.filterMap_cons, List.filterMap_nil, List.getElem?_cons_zero, List.getElem?_cons_succ, Option.map_some]
            repeat (change wpQuiet _ _ _ _ (_ :: _) _; go_big_quiet_step (fail))
            refine wpQuiet_nil ?_
            clear n0 n1 n2 n3 n4 n5 n6 hne
            refine wpSeqK_step (fun K hK => ?_)
            go_simp
            refine (ints_any _ _ (duesL t l) (duesL t l) _ (Hnm.out.below Acc0.out) (Hdu.out.below Acc0.out) ⟨by rw [duesL_len]; omega, by rw [duesL_len]; omega⟩).mono ?_
            rintro e wq1 ⟨rfl, hq1⟩
            rw [decide_eq_true (rfl : duesL t l = duesL t l)]
            have Acc1 := Lib.hid (Acc0.out.trans (hq1.mono Acc0.out.size))
            refine hK.out _ _ (fun _ => Acc1.out) ?_
            clear hK K hq1
            refine wpSeqK_nil ?_
            refine wpPh_cons Acc1.out (fun hne => ?_)
            have n0 := fun x : Meets (fun w' => Below wl.heap.size wl w') => cell_below x.property a0
            have n1 := fun x : Meets (fun w' => Below wl.heap.size wl w') => cell_below x.property a1
            have n2 := fun x : Meets (fun w' => Below wl.heap.size wl w') => cell_below x.property a2
            have n3 := fun x : Meets (fun w' => Below wl.heap.size wl w') => cell_below x.property a3
            have n4 := fun x : Meets (fun w' => Below wl.heap.size wl w') => cell_below x.property a4
            have n5 := fun x : Meets (fun w' => Below wl.heap.size wl w') => cell_below x.property r0
            have n6 := fun x : Meets (fun w' => Below wl.heap.size wl w') => cell_below x.property r1
            simp only [pick, pickN, List.filterMap_cons, List.filterMap_nil, List.getElem?_cons_zero, List.getElem?_cons_succ, Option.map_some]
            repeat (change wpQuiet _ _ _ _ (_ :: _) _; go_big_quiet_step (fail))
            refine wpQuiet_nil ?_
            clear n0 n1 n2 n3 n4 n5 n6 hne
            refine wpSeqK_step (fun K hK => ?_)
            go_simp
            refine (Dearest_ref t a b c _ (HT.out.below (HBl.out.trans (Acc1.out.mono HBl.out.size))) Hht.out).mono ?_
            rintro e wq2 ⟨rfl, hq2⟩
            rw [Hde.out]
            have Acc2 := Lib.hid (Acc1.out.trans (hq2.mono Acc1.out.size))
            refine hK.out _ _ (fun _ => Acc2.out) ?_
            clear hK K hq2
            refine wpSeqK_nil ?_
            refine wpPh_cons Acc2.out (fun hne => ?_)
            have n0 := fun x : Meets (fun w' => Below wl.heap.size wl w') => cell_below x.property a0
            have n1 := fun x : Meets (fun w' => Below wl.heap.size wl w') => cell_below x.property a1
            have n2 := fun x : Meets (fun w' => Below wl.heap.size wl w') => cell_below x.property a2
            have n3 := fun x : Meets (fun w' => Below wl.heap.size wl w') => cell_below x.property a3
            have n4 := fun x : Meets (fun w' => Below wl.heap.size wl w') => cell_below x.property a4
            have n5 := fun x : Meets (fun w' => Below wl.heap.size wl w') => cell_below x.property r0
            have n6 := fun x : Meets (fun w' => Below wl.heap.size wl w') => cell_below x.property r1
            simp only [pick, pickN, List.filterMap_cons, List.filterMap_nil, List.getElem?_cons_zero, List.getElem?_cons_succ, Option.map_some]
            repeat (change wpQuiet _ _ _ _ (_ :: _) _; go_big_quiet_step (fail))
            refine wpQuiet_nil ?_
            clear n0 n1 n2 n3 n4 n5 n6 hne
            refine wpSeqK_step (fun K hK => ?_)
            go_simp
            refine (awake_any _).mono ?_
            rintro e wq3 ⟨rfl, hq3⟩
            
            have Acc3 := Lib.hid (Acc2.out.trans (hq3.mono Acc2.out.size))
            refine hK.out _ _ (fun _ => Acc3.out) ?_
            clear hK K hq3
            refine wpSeqK_nil ?_
            refine wpPh_cons Acc3.out (fun hne => ?_)
            have n0 := fun x : Meets (fun w' => Below wl.heap.size wl w') => cell_below x.property a0
            have n1 := fun x : Meets (fun w' => Below wl.heap.size wl w') => cell_below x.property a1
            have n2 := fun x : Meets (fun w' => Below wl.heap.size wl w') => cell_below x.property a2
            have n3 := fun x : Meets (fun w' => Below wl.heap.size wl w') => cell_below x.property a3
            have n4 := fun x : Meets (fun w' => Below wl.heap.size wl w') => cell_below x.property a4
            have n5 := fun x : Meets (fun w' => Below wl.heap.size wl w') => cell_below x.property r0
            have n6 := fun x : Meets (fun w' => Below wl.heap.size wl w') => cell_below x.property r1
            simp only [pick, pickN, List.filterMap_cons, List.filterMap_nil, List.getElem?_cons_zero, List.getElem?_cons_succ, Option.map_some]
            repeat (change wpQuiet _ _ _ _ (_ :: _) _; go_big_quiet_step (fail))
            refine wpQuiet_nil ?_
            clear n0 n1 n2 n3 n4 n5 n6 hne
            refine wpSeqK_nil ?_
            refine wpPh_nil ?_
            refine NoPanic.normal ?_
            clear a0 a1 a2 a3 a4 r0 r1 qe qg
            go_wp2
            go_ret
            exact ⟨rfl, HBl.out.trans (Acc3.out.mono HBl.out.size)⟩
end Go.Proofs.Ytmbkpfkkohpnkaa
