import Derived.Test.YtmbkpfkkohpnkaaLp
set_option linter.unusedVariables false
set_option linter.unusedSimpArgs false
namespace Go.Proofs.Ytmbkpfkkohpnkaa
open Go Go.Proofs Go.RowKit

theorem least_mem {t : Tar} {l m : List Rd} {n : Int} (hm : ∀ r, r ∈ l ↔ r ∈ m) (h : LeastT t l n) : LeastT t m n := by
  have hs : ∀ x, startB l x = startB m x := fun x => by
    unfold startB
    congr 1
    rw [Bool.eq_iff_iff, List.any_eq_true, List.any_eq_true]
    constructor
    · rintro ⟨r, h1, h2⟩; exact ⟨r, (hm r).1 h1, h2⟩
    · rintro ⟨r, h1, h2⟩; exact ⟨r, (hm r).2 h1, h2⟩
  obtain ⟨⟨X, h1, h2⟩, h3⟩ := h
  obtain ⟨k1, k2⟩ := areTk_iff.1 h1
  exact ⟨⟨X, areTk_iff.2 ⟨fun x hx => ⟨(k1 x hx).1, by rw [← hs]; exact (k1 x hx).2⟩, fun r hr => k2 r ((hm r).2 hr)⟩, h2⟩, fun Y h4 h5 => h3 Y h4 fun r hr => h5 r ((hm r).1 hr)⟩
def addD (D : List Int) (d : Int) : List Int := if d ∈ D then D else D ++ [d]
def dayS (l : List Rd) : List Int := l.foldl (fun D r => addD D r.day) []
theorem dayS_take {l : List Rd} {k : Nat} {r : Rd} (h : l[k]? = some r) : dayS (l.take (k + 1)) = addD (dayS (l.take k)) r.day := by
  unfold dayS
  rw [List.take_add_one, h, List.foldl_append]
  rfl
theorem mem_addD {D : List Int} {d x : Int} : x ∈ addD D d ↔ x ∈ D ∨ x = d := by
  unfold addD
  by_cases h : d ∈ D
  · rw [if_pos h]
    constructor
    · exact .inl
    · rintro (h' | rfl)
      · exact h'
      · exact h
  · rw [if_neg h]
    simp
theorem mem_foldD : ∀ (l : List Rd) (D : List Int) (x : Int), x ∈ l.foldl (fun D r => addD D r.day) D ↔ x ∈ D ∨ ∃ r ∈ l, r.day = x
  | [], D, x => by simp
  | r :: l, D, x => by
    rw [List.foldl_cons, mem_foldD l, mem_addD]
    constructor
    · rintro ((h | h) | ⟨s, h1, h2⟩)
      · exact .inl h
      · exact .inr ⟨r, by simp, h.symm⟩
      · exact .inr ⟨s, by simp [h1], h2⟩
    · rintro (h | ⟨s, h1, h2⟩)
      · exact .inl (.inl h)
      · rcases List.mem_cons.1 h1 with e | e
        · subst e
          exact .inl (.inr h2.symm)
        · exact .inr ⟨s, e, h2⟩
theorem mem_dayS {l : List Rd} {x : Int} : x ∈ dayS l ↔ ∃ r ∈ l, r.day = x := by
  unfold dayS
  rw [mem_foldD]
  simp
theorem addD_len {D : List Int} {d : Int} : (addD D d).length ≤ D.length + 1 := by
  unfold addD
  split
  · omega
  · simp
theorem dayS_len (l : List Rd) : (dayS l).length ≤ l.length := by
  have : ∀ (l : List Rd) (D : List Int), (l.foldl (fun D r => addD D r.day) D).length ≤ D.length + l.length := by
    intro l
    induction l with
    | nil => intro D; simp
    | cons r l ih =>
      intro D
      rw [List.foldl_cons]
      have h1 := ih (addD D r.day)
      have h2 := addD_len (D := D) (d := r.day)
      simp only [List.length_cons]
      omega
  have := this l []
  simpa [dayS] using this
def seenC (D : List Int) : List Value := (List.range 7).map fun (d : Nat) => .bool (decide ((d : Int) ∈ D))
theorem seen_get {w : World} {B : Nat} {D : List Int} {T : TypeId} (h : w.heap[B]? = some (.cells (seenC D).toArray T (0, 0))) {d : Nat} (hd : d < 7) : w.cell? ⟨B, d, none⟩ = some (.bool (decide ((d : Int) ∈ D))) := by
  rw [box_cells h]
  unfold seenC
  rw [List.getElem?_toArray, List.getElem?_map, List.getElem?_range hd]
  rfl
theorem seen_set {w : World} {B : Nat} {D : List Int} {T : TypeId} (h : w.heap[B]? = some (.cells (seenC D).toArray T (0, 0))) {d : Nat} (hd : d < 7) (hn : ¬ (d : Int) ∈ D) : (w.setCell ⟨B, d, none⟩ (.bool true)).heap[B]? = some (.cells (seenC (addD D (d : Int))).toArray T (0, 0)) := by
  rw [blk_set h]
  congr 2
  unfold seenC
  rw [List.setIfInBounds_toArray]
  congr 1
  refine List.ext_getElem? fun j => ?_
  rw [List.getElem?_set]
  by_cases hj : j < 7
  · rw [List.getElem?_map, List.getElem?_range hj, List.getElem?_map, List.getElem?_range hj]
    by_cases e : d = j
    · subst e
      rw [if_pos rfl, if_pos (by simpa using hd)]
      simp [mem_addD]
    · rw [if_neg e]
      simp only [Option.map_some, Option.some.injEq, Value.bool.injEq]
      rw [decide_eq_decide, mem_addD]
      constructor
      · exact .inl
      · rintro (h | h)
        · exact h
        · omega
  · rw [List.getElem?_eq_none (by simp; omega), List.getElem?_eq_none (by simp; omega)]
    split
    · split
      · omega
      · rfl
    · rfl
def sinK (t : Tar) (l : List Rd) (k : Nat) : Int := sumT t ((l.take k).map singleT)
theorem sinK_succ {t : Tar} {l : List Rd} {k : Nat} {r : Rd} (h : l[k]? = some r) : sinK t l (k + 1) = sinK t l k + priceT t (singleT r) := by
  unfold sinK
  rw [List.take_add_one, h, List.map_append, sumT_append]
  simp [sumT]
theorem sumT_bd2 {t : Tar} (ht : tarB t = true) : ∀ X : List Tk, 0 ≤ sumT t X ∧ sumT t X ≤ 10000 * (X.length : Int)
  | [] => by simp [sumT]
  | x :: X => by
    have h1 := sumT_bd2 ht X
    have h2 := price_bd ht x
    simp only [sumT, List.length_cons]
    omega
set_option maxRecDepth 100000 in
set_option maxHeartbeats 4000000 in
theorem Caps_law (t : Tar) (a b c v : Value) (l : List Rd) (w : World) (hT : TarAt w a b c t) (hv : RdsAt w v l) :
    Calls Try.prog 10 #[.agg #[.int .i64 t.zones, a, b, c, .int .i64 t.window], v] w (Gives w (.bool true)) := by
  obtain ⟨Av, cv, rfl, _, _⟩ := hv.form
  obtain ⟨A1, c1, rfl, _, _⟩ := hT.singles.form
  obtain ⟨A2, c2, rfl, _, _⟩ := hT.days.form
  obtain ⟨A3, c3, rfl, _, _⟩ := hT.weeks.form
  obtain ⟨N, hN⟩ : ∃ N, l.length = N := ⟨_, rfl⟩
  obtain ⟨N1, hN1⟩ : ∃ N1, t.singles.length = N1 := ⟨_, rfl⟩
  obtain ⟨N2, hN2⟩ : ∃ N2, t.days.length = N2 := ⟨_, rfl⟩
  obtain ⟨N3, hN3⟩ : ∃ N3, t.weeks.length = N3 := ⟨_, rfl⟩
  rw [hN] at hv ⊢
  rw [hN1, hN2, hN3] at hT ⊢
  have HN := Lib.hid hN
  have HN1 := Lib.hid hN1
  have HN2 := Lib.hid hN2
  have HN3 := Lib.hid hN3
  have HT := Lib.hid hT
  have Hv := Lib.hid hv
  clear hT hv hN hN1 hN2 hN3
  go_enter Try.func10, Try.ntmps10
  go_upto_region 1 with (fail)
  refine wp_name (fun W => Below w.heap.size w W ∧ W.heap[w.heap.size]? = some (.cells #[.int .i64 t.zones, .slice A1 N1 c1, .slice A2 N2 c2, .slice A3 N3 c3, .int .i64 t.window] 24 (0, 0))) ⟨(Below.refl _ _).alloc (Nat.le_refl _) _, heap_alloc_new w _⟩ (fun W0 hW => ?_)
  obtain ⟨hb0, hx0⟩ := hW
  have HB0 := Lib.hid hb0
  have HX0 := Lib.hid hx0
  clear hb0 hx0
  have aq := box_cells HX0.out
  have a0 := aq 0
  have a1 := aq 1
  have a2 := aq 2
  have a3 := aq 3
  have a4 := aq 4
  simp only [List.getElem?_toArray, List.getElem?_cons_zero, List.getElem?_cons_succ] at a0 a1 a2 a3 a4
  clear aq
  go_wp2_with fail
  refine (ready_any t _ _ _ _ l W0 (HT.out.below HB0.out) (Hv.out.below HB0.out)).mono ?_
  rintro e w1 ⟨rfl, hb1⟩
  clear a0 a1 a2 a3 a4
  have HB1 := Lib.hid (HB0.out.trans (hb1.mono HB0.out.size))
  have HX1 := Lib.hid ((hb1.block _ (Array.getElem?_eq_some_iff.1 HX0.out).1).trans HX0.out)
  clear hb1
  cases hre : readyB t l with
  | false =>
    clear hre
    go_wp2_with fail
    refine (awake_any _).mono ?_
    rintro e wz2 ⟨rfl, hbz2⟩
    go_wp2
    go_ret
    exact ⟨rfl, HB1.out.trans (hbz2.mono HB1.out.size)⟩
  | true =>
    obtain ⟨hth, h20, hz⟩ := ready_iff.1 hre
    rw [HN.out] at h20
    have Hth := Lib.hid hth
    have Hz := Lib.hid hz
    have htar := (ridesF_all hz).1
    have hzz := tar_pos htar
    obtain ⟨zn, hzn⟩ : ∃ zn : Nat, t.zones = (zn : Int) := ⟨t.zones.toNat, by omega⟩
    have l1 : N1 = zn := by
      have h : ((t.singles).length : Int) = t.zones := by simpa [kindL] using (kindL_ok htar 0).1
      have := HN1.out
      omega
    have l2 : N2 = zn := by
      have h : ((t.days).length : Int) = t.zones := by simpa [kindL] using (kindL_ok htar 1).1
      have := HN2.out
      omega
    have l3 : N3 = zn := by
      have h : ((t.weeks).length : Int) = t.zones := by simpa [kindL] using (kindL_ok htar 2).1
      have := HN3.out
      omega
    have hz4 : 1 ≤ zn ∧ zn ≤ 4 := by omega
    have Hzn := Lib.hid hzn
    have Hl1 := Lib.hid l1
    have Hl2 := Lib.hid l2
    have Hl3 := Lib.hid l3
    clear hre hth hz htar hzz hzn l1 l2 l3
    have aq := box_cells HX1.out
    have a0 := aq 0
    have a1 := aq 1
    have a2 := aq 2
    have a3 := aq 3
    have a4 := aq 4
    simp only [List.getElem?_toArray, List.getElem?_cons_zero, List.getElem?_cons_succ] at a0 a1 a2 a3 a4
    clear aq
    go_wp2_with fail
    refine (Tariff_law t _ _ _ _ (HT.out.below HB1.out) Hth.out).mono ?_
    rintro e xa3 ⟨pa3, pb3, pc3, rfl, hT3, hxa3⟩
    clear a0 a1 a2 a3 a4
    have HB4 := Lib.hid (HB1.out.trans (hxa3.mono HB1.out.size))
    have HX4 := Lib.hid ((hxa3.block _ (Array.getElem?_eq_some_iff.1 HX1.out).1).trans HX1.out)
    go_wp2_with fail
    refine (Rides_law _ _ _ (Hv.out.below HB4.out) (by have := HN.out; omega)).mono ?_
    rintro e xb3 ⟨pA3, pk3, rfl, hr3, hxb3⟩
    have hT3 := hT3.below hxb3
    have HB5 := Lib.hid (HB4.out.trans (hxb3.mono HB4.out.size))
    have HX5 := Lib.hid ((hxb3.block _ (Array.getElem?_eq_some_iff.1 HX4.out).1).trans HX4.out)
    go_wp2_with fail
    refine (Tickets_any t pa3 pb3 pc3 _ l _ hT3 hr3 (by have := HN.out; omega)).mono ?_
    rintro e xc3 ⟨hxc3, _, hg3⟩
    obtain ⟨TA3, Tk3, rfl, _⟩ := hg3 Hz.out
    obtain ⟨p3, hp3⟩ : ∃ p, (chargeT t (onceL l)).1 = p := ⟨_, rfl⟩
    rw [hp3]
    generalize (chargeT t (onceL l)).2.length = tn3
    have Hp3 := Lib.hid hp3
    clear hg3 hp3 hT3 hr3
    have HB6 := Lib.hid (HB5.out.trans (hxc3.mono HB5.out.size))
    have HX6 := Lib.hid ((hxc3.block _ (Array.getElem?_eq_some_iff.1 HX5.out).1).trans HX5.out)
    clear hxc3
    go_wp2_with fail
    refine (Once_ref _ l _ (Hv.out.below HB6.out) (by have := HN.out; omega)).mono ?_
    rintro e wo ⟨Ao, co, rfl, hro, hbo⟩
    obtain ⟨o, ho⟩ : ∃ o, uniqL l = o := ⟨_, rfl⟩
    have hmem : ∀ r, r ∈ l ↔ r ∈ o := fun r => by rw [← ho]; exact mem_uniqL.symm
    have hol : o.length ≤ 20 := by rw [← ho]; have := uniqL_le l; have := HN.out; omega
    rw [ho] at hro ⊢
    obtain ⟨n, hn⟩ : ∃ n, o.length = n := ⟨_, rfl⟩
    rw [hn] at hro hol ⊢
    have Hn := Lib.hid hn
    have Hmem := Lib.hid hmem
    have Hro := Lib.hid hro
    clear ho hmem hro hn
    have HB7 := Lib.hid (HB6.out.trans (hbo.mono HB6.out.size))
    have HX7 := Lib.hid ((hbo.block _ (Array.getElem?_eq_some_iff.1 HX6.out).1).trans HX6.out)
    clear hbo
    go_upto_region 8 with (fail)
    refine wp_name (fun V => Below wo.heap.size wo V ∧ V.heap[wo.heap.size]? = some (.cells (seenC []).toArray 80 (0, 0))) ⟨(Below.refl _ _).alloc (Nat.le_refl _) _, heap_alloc_new wo _⟩ (fun V hV => ?_)
    obtain ⟨hbV, hsV⟩ := hV
    have HbV := Lib.hid hbV
    have HsV := Lib.hid hsV
    obtain ⟨SB, hSB⟩ : ∃ SB, wo.heap.size = SB := ⟨_, rfl⟩
    rw [hSB] at HsV ⊢
    have HSB := Lib.hid hSB
    clear hbV hsV hSB
    obtain ⟨pd, hpd⟩ : ∃ pd, (t.days[(t.zones - 1).toNat]?).getD 0 = pd := ⟨_, rfl⟩
    have Hpd := Lib.hid hpd
    clear hpd
    go_wp2
    go_loopw [10, 11, 12] (fun d q i wr => ∃ (k : Nat) (D : List Int), k ≤ n ∧ D = dayS (o.take k) ∧ d = .int .i64 ((D.length : Int) * pd) ∧ q = .int .i64 (sinK t o k) ∧ i = .int .i64 k ∧ Below wo.heap.size wo wr ∧ wr.heap[SB]? = some (.cells (seenC D).toArray 80 (0, 0))) (fun d q i wr => n - (intOf i).toNat)
    case atStart => exact ⟨0, [], by omega, rfl, by simp, rfl, rfl, HbV.out, HsV.out⟩
    case round =>
      obtain ⟨k, D, hk, hD, rfl, rfl, rfl, hbr, hsr⟩ := hrel
      have HD := Lib.hid hD
      have Hbr := Lib.hid hbr
      have Hsr := Lib.hid hsr
      have hDl : D.length ≤ 20 := by
        rw [hD]
        have h1 := dayS_len (o.take k)
        have h2 : (o.take k).length ≤ k := by rw [List.length_take]; omega
        omega
      clear hD hbr hsr HbV HsV
      have hpb := price_bd (ridesF_all Hz.out).1
      by_cases hlt : k < n
      · obtain ⟨bb, oo, x, rfl, hx, Q0, Q1, Q2, Q3, _⟩ := Hro.out.at_ (n := n) (k := k) (by have := Hn.out; omega)
        have hxl := (Hmem.out x).2 (List.mem_of_getElem? hx)
        obtain ⟨xd, _, z1, z2, z3⟩ := rideB_iff.1 ((ridesF_all Hz.out).2.2 x hxl)
        obtain ⟨dd, hdd⟩ : ∃ dd : Nat, x.day = (dd : Int) := ⟨x.day.toNat, by omega⟩
        obtain ⟨g, hg⟩ : ∃ g : Nat, x.high - x.low = (g : Int) := ⟨(x.high - x.low).toNat, by omega⟩
        have hd7 : dd < 7 := by omega
        have idd : (dd : Int) < 7 := by omega
        have idd0 : (0 : Int) ≤ (dd : Int) := by omega
        have ik : (k : Int) < (n : Int) := by omega
        have hgz : g < zn := by have := Hzn.out; omega
        obtain ⟨b1, o1, y1, rfl, hy1, E1, _⟩ := (HT.out.below HB7.out).singles.at_ (n := N1) (k := g) (by have := HN1.out; have := Hl1.out; omega)
        have hps : priceT t (singleT x) = y1 := by
          unfold priceT singleT kindL
          simp only [if_pos, ↓reduceIte]
          rw [hg, Int.toNat_natCast, hy1]
          rfl
        have wg : IntKind.i64.wrap (x.high - x.low) = (g : Int) := by rw [hg]; exact IntWalk.i64_in _ (by omega)
        have ig : (g : Int) < (N1 : Int) := by have := Hl1.out; omega
        have hyb := hpb (singleT x)
        rw [hps] at hyb
        have hsk := sinK_succ (t := t) hx
        rw [hps] at hsk
        have hdk := dayS_take hx
        rw [hdd, ← HD.out] at hdk
        obtain ⟨ss, hss⟩ : ∃ ss, sinK t o k = ss := ⟨_, rfl⟩
        have hssb := sumT_bd2 (ridesF_all Hz.out).1 ((o.take k).map singleT)
        have hssl : (((o.take k).map singleT).length : Int) ≤ 20 := by rw [List.length_map, List.length_take]; omega
        have hsse : sumT t ((o.take k).map singleT) = ss := hss
        rw [hsse] at hssb
        rw [hss] at hsk ⊢
        have ws : IntKind.i64.wrap (ss + y1) = ss + y1 := IntWalk.i64_in _ (by omega)
        have Hsk := Lib.hid hsk
        have Hdk := Lib.hid hdk
        have Hss := Lib.hid hss
        have P0 := Q0
        rw [hdd] at P0
        have cS := seen_get Hsr.out hd7
        have Zq := box_cells HX7.out
        have A0' := Zq 0
        have A1' := Zq 1
        have A2' := Zq 2
        have A3' := Zq 3
        have A4' := Zq 4
        simp only [List.getElem?_toArray, List.getElem?_cons_zero, List.getElem?_cons_succ] at A0' A1' A2' A3' A4'
        clear Zq
        clear hx hxl xd z1 z2 z3 hdd hg hps hyb hsk hdk hss hssb hssl hsse Q0 hy1 hpb
        have p0 := cell_below Hbr.out P0
        by_cases hmm : (dd : Int) ∈ D
        · have cS' : wr.cell? ⟨SB, dd, none⟩ = some (.bool true) := by rw [cS, decide_eq_true hmm]
          have hadd : addD D (dd : Int) = D := if_pos hmm
          have Hadd := Lib.hid hadd
          clear hmm hadd cS
          have a1 := Later.cell (cell_below Hbr.out A1')
          have q2 := Later.cell (cell_below Hbr.out Q2)
          have q3 := Later.cell (cell_below Hbr.out Q3)
          have e1 := Later.cell (cell_below Hbr.out E1)
          go_upto_region 15 with (fail)
          refine wp_region_later (by kernel_rfl) (by kernel_rfl) ?_
          repeat (change wpQuiet _ _ _ _ (_ :: _) _; go_big_quiet_step (fail))
          refine wpQuiet_nil ?_
          intro w5 hL5
          have hb5 := Later.out hL5
          have Hb5 := Lib.hid (Hbr.out.trans (hb5.mono Hbr.out.size))
          have HS5 := Lib.hid ((hb5.block _ (Array.getElem?_eq_some_iff.1 Hsr.out).1).trans Hsr.out)
          clear hL5 hb5 A0' A1' A2' A3' A4' Q1 Q2 Q3 E1 p0 P0 cS' a1 q2 q3 e1
          go_wp2
          go_roundw
          case rel =>
            refine ⟨k + 1, D, by omega, by rw [Hdk.out, Hadd.out], rfl, by rw [Hsk.out], by go_num, Hb5.out, HS5.out⟩
          case measure => simp [intOf]; omega
        · have cS' : wr.cell? ⟨SB, dd, none⟩ = some (.bool false) := by rw [cS, decide_eq_false hmm]
          have fS := box_frozen Hsr.out dd
          have hset := seen_set Hsr.out hd7 hmm
          have hadd : addD D (dd : Int) = D ++ [(dd : Int)] := if_neg hmm
          rw [hadd] at hset
          have hlen : (((D ++ [(dd : Int)]).length : Nat) : Int) = (D.length : Int) + 1 := by simp
          have Hlen := Lib.hid hlen
          have Hadd := Lib.hid hadd
          clear hmm hadd cS hlen
          obtain ⟨b2, o2, y2, rfl, hy2, E2, _⟩ := (HT.out.below HB7.out).days.at_ (n := N2) (k := zn - 1) (by have := HN2.out; have := Hl2.out; omega)
          have hpy : pd = y2 := by
            rw [← Hpd.out, Hzn.out, show ((zn : Int) - 1).toNat = zn - 1 by omega, hy2]
            rfl
          have wz : IntKind.i64.wrap (t.zones - 1) = ((zn - 1 : Nat) : Int) := by rw [Hzn.out, show ((zn : Int) - 1) = ((zn - 1 : Nat) : Int) by omega]; exact IntWalk.i64_in _ (by omega)
          have iz : ((zn - 1 : Nat) : Int) < (N2 : Int) := by have := Hl2.out; omega
          have hyb : 0 ≤ y2 ∧ y2 ≤ 10000 := (kindL_ok (ridesF_all Hz.out).1 1).2 y2 (by simpa [kindL] using List.mem_of_getElem? hy2)
          have hpm : 0 ≤ (D.length : Int) * pd ∧ (D.length : Int) * pd ≤ 200000 := ⟨Int.mul_nonneg (by omega) (by omega), Int.le_trans (Int.mul_le_mul (show (D.length : Int) ≤ 20 by omega) (show pd ≤ 10000 by omega) (by omega) (by omega)) (by omega)⟩
          obtain ⟨dp, hdp⟩ : ∃ dp, (D.length : Int) * pd = dp := ⟨_, rfl⟩
          rw [hdp] at hpm ⊢
          have wd : IntKind.i64.wrap (dp + y2) = dp + y2 := IntWalk.i64_in _ (by omega)
          have Hdp := Lib.hid hdp
          have Hpy := Lib.hid hpy
          obtain ⟨zm, hzm⟩ : ∃ zm : Nat, zn - 1 = zm := ⟨_, rfl⟩
          rw [hzm] at wz iz E2
          have Hset := Lib.hid hset
          clear hy2 hpy hyb hpm hdp hzm hset
          have gS := grown_set (World.grownBy.refl wr (some SB)) dd (.bool true)
          go_upto_region 14 with (fail)
          refine wp_name (fun V2 => V2 = wr.setCell ⟨SB, dd, none⟩ (.bool true)) rfl (fun V2 hV2 => ?_)
          rw [← hV2] at Hset gS
          have hb2 : Below wo.heap.size wo V2 := Hbr.out.trans ⟨gS.os, gS.tape, gS.output, gS.size, fun i hi => gS.block i (by have := Hbr.out.size; omega) (fun e => by injection e with e; have := HSB.out; omega)⟩
          have Hb2 := Lib.hid hb2
          clear hV2 gS fS cS' p0 P0 hb2
          have a0 := cell_below Hb2.out A0'
          have a2 := cell_below Hb2.out A2'
          have e2 := cell_below Hb2.out E2
          have a1 := Later.cell (cell_below Hb2.out A1')
          have q2 := Later.cell (cell_below Hb2.out Q2)
          have q3 := Later.cell (cell_below Hb2.out Q3)
          have e1 := Later.cell (cell_below Hb2.out E1)
          go_upto_region 15 with (fail)
          refine wp_region_later (by kernel_rfl) (by kernel_rfl) ?_
          repeat (change wpQuiet _ _ _ _ (_ :: _) _; go_big_quiet_step (fail))
          refine wpQuiet_nil ?_
          intro w5 hL5
          have hb5 := Later.out hL5
          have Hb5 := Lib.hid (Hb2.out.trans (hb5.mono Hb2.out.size))
          have HS5 := Lib.hid ((hb5.block _ (Array.getElem?_eq_some_iff.1 Hset.out).1).trans Hset.out)
          clear hL5 hb5 A0' A1' A2' A3' A4' Q1 Q2 Q3 E1 E2 a0 a1 a2 q2 q3 e1 e2
          go_wp2
          go_roundw
          case rel =>
            refine ⟨k + 1, D ++ [(dd : Int)], by omega, by rw [Hdk.out, Hadd.out], by rw [Hlen.out, Int.add_mul, Int.one_mul, Hdp.out, Hpy.out], by rw [Hsk.out], by go_num, Hb5.out, HS5.out⟩
          case measure => simp [intOf]; omega
      · have hkn : k = n := by omega
        have hok : o.take k = o := List.take_of_length_le (by have := Hn.out; omega)
        have hle := price_least Hz.out
        have hpr : priceL t l = p3 := Hp3.out
        have hpb0 := (price_bd2 Hz.out).1
        rw [hpr] at hle hpb0
        obtain ⟨ht, _, hall⟩ := ridesF_all Hz.out
        have hcw := caps_week ht hall hle
        have hcd := caps_days ht hall hle D (fun d hd => by
          rw [HD.out, hok] at hd
          obtain ⟨r, hr, rfl⟩ := mem_dayS.1 hd
          exact (rideB_iff.1 (hall r ((Hmem.out r).2 hr))).1) (fun r hr => by
          rw [HD.out, hok]
          exact mem_dayS.2 ⟨r, (Hmem.out r).1 hr, rfl⟩)
        have hcs := caps_singles ht (fun r hr => hall r ((Hmem.out r).2 hr)) (least_mem Hmem.out hle)
        have hse : sinK t o k = sumT t (o.map singleT) := by unfold sinK; rw [hok]
        rw [← hse] at hcs
        rw [Hpd.out] at hcd
        obtain ⟨ss, hss⟩ : ∃ ss, sinK t o k = ss := ⟨_, rfl⟩
        obtain ⟨dp, hdp⟩ : ∃ dp, (D.length : Int) * pd = dp := ⟨_, rfl⟩
        rw [hss] at hcs
        rw [hdp] at hcd
        rw [hss, hdp]
        obtain ⟨b3, o3, y3, rfl, hy3, E3, _⟩ := (HT.out.below HB7.out).weeks.at_ (n := N3) (k := zn - 1) (by have := HN3.out; have := Hl3.out; omega)
        have hcw3 : p3 ≤ y3 := by
          rw [Hzn.out, show ((zn : Int) - 1).toNat = zn - 1 by omega, hy3] at hcw
          exact hcw
        have wz : IntKind.i64.wrap (t.zones - 1) = ((zn - 1 : Nat) : Int) := by rw [Hzn.out, show ((zn : Int) - 1) = ((zn - 1 : Nat) : Int) by omega]; exact IntWalk.i64_in _ (by omega)
        have iz : ((zn - 1 : Nat) : Int) < (N3 : Int) := by have := Hl3.out; omega
        obtain ⟨zm, hzm⟩ : ∃ zm : Nat, zn - 1 = zm := ⟨_, rfl⟩
        rw [hzm] at wz iz E3
        have e3 := cell_below Hbr.out E3
        have ik : ¬ (k : Int) < (n : Int) := by omega
        have g1 : decide (0 ≤ p3) = true := decide_eq_true hpb0
        have g2 : decide (p3 ≤ y3) = true := decide_eq_true hcw3
        have g3 : decide (p3 ≤ dp) = true := decide_eq_true hcd
        have g4 : decide (p3 ≤ ss) = true := decide_eq_true hcs
        clear hok hle hpr ht hall hcw hse hss hdp hy3 hzm E3 hkn hpb
        have HB8 := Lib.hid (HB7.out.trans (Hbr.out.mono HB7.out.size))
        have HX8 := Lib.hid ((Hbr.out.block _ (Array.getElem?_eq_some_iff.1 HX7.out).1).trans HX7.out)
        have aq := box_cells HX8.out
        have a0 := aq 0
        have a1 := aq 1
        have a2 := aq 2
        have a3 := aq 3
        have a4 := aq 4
        simp only [List.getElem?_toArray, List.getElem?_cons_zero, List.getElem?_cons_succ] at a0 a1 a2 a3 a4
        clear aq
        go_wp2_with fail
        refine (awake_any _).mono ?_
        rintro e wz9 ⟨rfl, hbz9⟩
        go_wp2
        go_ret
        exact ⟨rfl, HB8.out.trans (hbz9.mono HB8.out.size)⟩
end Go.Proofs.Ytmbkpfkkohpnkaa
