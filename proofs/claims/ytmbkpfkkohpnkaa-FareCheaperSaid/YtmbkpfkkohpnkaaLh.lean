import Derived.Test.YtmbkpfkkohpnkaaSw
set_option linter.unusedVariables false
set_option linter.unusedSimpArgs false
namespace Go.Proofs.Ytmbkpfkkohpnkaa
open Go Go.Proofs Go.RowKit

theorem wpSeqK_name {P : Program} {ops : Array Oper} {Q : Exit → Act → World → Prop} {S : World → Prop} {kp : Nat → Bool} {K : Act → World → Prop} {rest : List (Nat × Oper)} {a : Act} {w : World} (F : World → Prop) (h : F w) (hk : ∀ W, F W → wpSeqK P ops Q S kp K rest a W) : wpSeqK P ops Q S kp K rest a w := hk w h
theorem blk_ne {g N k X : Nat} (h : g ≠ X) : (Value.slice (some ⟨g, 0, none⟩) N k).ownBlock = none ∨ (Value.slice (some ⟨g, 0, none⟩) N k).ownBlock ≠ some X := .inr (fun e => h (Option.some.inj e))
/-- The same tariff with other prices and another window, none dearer, the window no shorter. -/
structure Cheaper (t u : Tar) : Prop where
  zones : u.zones = t.zones
  tar : tarB u = true
  thin : thinB u = true
  win : t.window ≤ u.window
  price : ∀ x, tkB t x = true → priceT u x ≤ priceT t x
theorem prices_set {l : List Int} {n : Int} {i : Nat} {v : Int} (h : pricesB l n = true) (hv : 0 ≤ v ∧ v ≤ 10000) : pricesB (l.set i v) n = true := by
  simp only [pricesB, Bool.and_eq_true, decide_eq_true_eq, List.all_eq_true, inB_iff, List.length_set] at h ⊢
  refine ⟨h.1, fun x hx => ?_⟩
  rcases List.mem_or_eq_of_mem_set hx with h1 | rfl
  · exact h.2 x h1
  · exact hv
theorem get_set_le {l : List Int} {i j : Nat} {v s : Int} (hi : l[i]? = some s) (hv : v ≤ s) : ((l.set i v)[j]?).getD 0 ≤ (l[j]?).getD 0 := by
  rw [List.getElem?_set]
  by_cases e : i = j
  · subst e
    rw [if_pos rfl, hi]
    have := (List.getElem?_eq_some_iff.1 hi).1
    simp [this, hv]
  · rw [if_neg e]
    exact Int.le_refl _
theorem cheaper0 {t : Tar} {i : Nat} {v s : Int} (ht : tarB t = true) (hth : thinB t = true) (hi : t.singles[i]? = some s) (hv : 0 ≤ v) (hs : v ≤ s) : Cheaper t { t with singles := t.singles.set i v } := by
  have hb := (kindL_ok ht 0).2 s (by simpa [kindL] using List.mem_of_getElem? hi)
  refine ⟨rfl, ?_, ?_, Int.le_refl _, fun x _ => ?_⟩
  · unfold tarB at ht ⊢
    simp only [Bool.and_eq_true] at ht ⊢
    exact ⟨ht.1, ht.2.1, prices_set ht.2.2.1 ⟨hv, by omega⟩, ht.2.2.2⟩
  · simpa [thinB] using hth
  · unfold priceT kindL
    by_cases h0 : x.kind = 0
    · simp only [h0, if_true]
      exact get_set_le hi hs
    · simp only [h0, if_false]
      exact Int.le_refl _
theorem cheaper1 {t : Tar} {i : Nat} {v s : Int} (ht : tarB t = true) (hth : thinB t = true) (hi : t.days[i]? = some s) (hv : 0 ≤ v) (hs : v ≤ s) : Cheaper t { t with days := t.days.set i v } := by
  have hb := (kindL_ok ht 1).2 s (by simpa [kindL] using List.mem_of_getElem? hi)
  refine ⟨rfl, ?_, ?_, Int.le_refl _, fun x _ => ?_⟩
  · unfold tarB at ht ⊢
    simp only [Bool.and_eq_true] at ht ⊢
    exact ⟨ht.1, ht.2.1, ht.2.2.1, prices_set ht.2.2.2.1 ⟨hv, by omega⟩, ht.2.2.2.2⟩
  · simpa [thinB] using hth
  · unfold priceT kindL
    by_cases h0 : x.kind = 0
    · simp only [h0, if_true]
      exact Int.le_refl _
    · by_cases h1 : x.kind = 1
      · simp only [h1]
        exact get_set_le hi hs
      · simp only [h0, h1, if_false]
        exact Int.le_refl _
theorem cheaper2 {t : Tar} {i : Nat} {v s : Int} (ht : tarB t = true) (hth : thinB t = true) (hi : t.weeks[i]? = some s) (hv : 0 ≤ v) (hs : v ≤ s) : Cheaper t { t with weeks := t.weeks.set i v } := by
  have hb := (kindL_ok ht 2).2 s (by simpa [kindL] using List.mem_of_getElem? hi)
  refine ⟨rfl, ?_, ?_, Int.le_refl _, fun x _ => ?_⟩
  · unfold tarB at ht ⊢
    simp only [Bool.and_eq_true] at ht ⊢
    exact ⟨ht.1, ht.2.1, ht.2.2.1, ht.2.2.2.1, prices_set ht.2.2.2.2 ⟨hv, by omega⟩⟩
  · simpa [thinB] using hth
  · unfold priceT kindL
    by_cases h0 : x.kind = 0
    · simp only [h0, if_true]
      exact Int.le_refl _
    · by_cases h1 : x.kind = 1
      · simp only [h1]
        exact Int.le_refl _
      · simp only [h0, h1, if_false]
        exact get_set_le hi hs
theorem cheaper3 {t : Tar} {v : Int} (ht : tarB t = true) (hth : thinB t = true) (hv : t.window ≤ v) (h2 : v ≤ 1440) : Cheaper t { t with window := v } := by
  have := tar_pos ht
  refine ⟨rfl, ?_, ?_, hv, fun x _ => Int.le_refl _⟩
  · unfold tarB at ht ⊢
    simp only [Bool.and_eq_true, inB_iff] at ht ⊢
    exact ⟨ht.1, ⟨by omega, h2⟩, ht.2.2⟩
  · simpa [thinB] using hth
theorem Cheaper.rides {t u : Tar} {l : List Rd} (h : Cheaper t u) (hl : ridesF t l = 0) : ridesF u l = 0 := by
  obtain ⟨_, h2, h3⟩ := ridesF_all hl
  refine ridesF_none h.tar (by omega) fun x hx => ?_
  have := h3 x hx
  unfold rideB zonesB at this ⊢
  rw [h.zones]
  exact this
set_option maxRecDepth 100000 in
set_option maxHeartbeats 4000000 in
theorem Cheaper_law (t : Tar) (a b c v : Value) (l : List Rd) (n1 n2 n3 : Nat) (w : World) (hT : TarAt w a b c t) (hv : RdsAt w v l) (hn1 : n1 < 256) (hn2 : n2 < 256) (hn3 : n3 < 65536) :
    Calls Try.prog 12 #[.agg #[.int .i64 t.zones, a, b, c, .int .i64 t.window], v, .int .u8 (n1 : Int), .int .u8 (n2 : Int), .int .u16 (n3 : Int)] w (Gives w (.bool true)) := by
  obtain ⟨Av, cv, rfl, _, _⟩ := hv.form
  obtain ⟨A1, c1, rfl, _, _⟩ := hT.singles.form
  obtain ⟨A2, c2, rfl, _, _⟩ := hT.days.form
  obtain ⟨A3, c3, rfl, _, _⟩ := hT.weeks.form
  obtain ⟨N, hN⟩ : ∃ N, l.length = N := ⟨_, rfl⟩
  obtain ⟨N1, hN1⟩ : ∃ N1, t.singles.length = N1 := ⟨_, rfl⟩
  obtain ⟨N2, hN2⟩ : ∃ N2, t.days.length = N2 := ⟨_, rfl⟩
  obtain ⟨N3, hN3⟩ : ∃ N3, t.weeks.length = N3 := ⟨_, rfl⟩
  rw [hN] at hv ⊢
  rw [hN1, hN2, hN3] at hT ⊢
  have HN := Lib.hid hN
  have HN1 := Lib.hid hN1
  have HN2 := Lib.hid hN2
  have HN3 := Lib.hid hN3
  have HT := Lib.hid hT
  have Hv := Lib.hid hv
  clear hT hv hN hN1 hN2 hN3
  go_enter Try.func12, Try.ntmps12
  go_upto_region 1 with (fail)
  refine wp_name (fun W => Below w.heap.size w W ∧ W.heap[w.heap.size]? = some (.cells #[.int .i64 t.zones, .slice A1 N1 c1, .slice A2 N2 c2, .slice A3 N3 c3, .int .i64 t.window] 24 (0, 0))) ⟨(Below.refl _ _).alloc (Nat.le_refl _) _, heap_alloc_new w _⟩ (fun W0 hW => ?_)
  obtain ⟨hb0, hx0⟩ := hW
  have HB0 := Lib.hid hb0
  have HX0 := Lib.hid hx0
  clear hb0 hx0
  have aq := box_cells HX0.out
  have a0 := aq 0
  have a1 := aq 1
  have a2 := aq 2
  have a3 := aq 3
  have a4 := aq 4
  simp only [List.getElem?_toArray, List.getElem?_cons_zero, List.getElem?_cons_succ] at a0 a1 a2 a3 a4
  clear aq
  go_wp2_with fail
  refine (ready_any t _ _ _ _ l W0 (HT.out.below HB0.out) (Hv.out.below HB0.out)).mono ?_
  rintro e w1 ⟨rfl, hb1⟩
  clear a0 a1 a2 a3 a4
  have HB1 := Lib.hid (HB0.out.trans (hb1.mono HB0.out.size))
  have HX1 := Lib.hid ((hb1.block _ (Array.getElem?_eq_some_iff.1 HX0.out).1).trans HX0.out)
  clear hb1
  cases hre : readyB t l with
  | false =>
    clear hre
    go_wp2_with fail
    refine (awake_any _).mono ?_
    rintro e wz2 ⟨rfl, hbz2⟩
    go_wp2
    go_ret
    exact ⟨rfl, HB1.out.trans (hbz2.mono HB1.out.size)⟩
  | true =>
    obtain ⟨hth, h20, hz⟩ := ready_iff.1 hre
    rw [HN.out] at h20
    have Hth := Lib.hid hth
    have Hz := Lib.hid hz
    have htar := (ridesF_all hz).1
    have hzz := tar_pos htar
    have hw1440 : 0 ≤ t.window ∧ t.window ≤ 1440 := ⟨hzz.2.2.1, hzz.2.2.2⟩
    obtain ⟨zn, hzn⟩ : ∃ zn : Nat, t.zones = (zn : Int) := ⟨t.zones.toNat, by omega⟩
    have l1 : N1 = zn := by
      have h : ((t.singles).length : Int) = t.zones := by simpa [kindL] using (kindL_ok htar 0).1
      have := HN1.out
      omega
    have l2 : N2 = zn := by
      have h : ((t.days).length : Int) = t.zones := by simpa [kindL] using (kindL_ok htar 1).1
      have := HN2.out
      omega
    have l3 : N3 = zn := by
      have h : ((t.weeks).length : Int) = t.zones := by simpa [kindL] using (kindL_ok htar 2).1
      have := HN3.out
      omega
    have hz4 : 1 ≤ zn ∧ zn ≤ 4 := by omega
    have Htar := Lib.hid htar
    have Hzn := Lib.hid hzn
    have Hl1 := Lib.hid l1
    have Hl2 := Lib.hid l2
    have Hl3 := Lib.hid l3
    clear hre hth hz htar hzz hzn l1 l2 l3
    have aq := box_cells HX1.out
    have a0 := aq 0
    have a1 := aq 1
    have a2 := aq 2
    have a3 := aq 3
    have a4 := aq 4
    simp only [List.getElem?_toArray, List.getElem?_cons_zero, List.getElem?_cons_succ] at a0 a1 a2 a3 a4
    clear aq
    go_upto_region 4 with (fail)
    refine wp_name (fun V => Below w1.heap.size w1 V ∧ V.heap[w1.heap.size]? = some (.cells #[.int .i64 t.zones, .slice A1 N1 c1, .slice A2 N2 c2, .slice A3 N3 c3, .int .i64 t.window] 24 (0, 0))) ⟨(Below.refl _ _).alloc (Nat.le_refl _) _, heap_alloc_new w1 _⟩ (fun V hV => ?_)
    obtain ⟨hbV, hxV⟩ := hV
    have hBV : w1.heap.size < V.heap.size := (Array.getElem?_eq_some_iff.1 hxV).1
    have hBw := HB1.out.size
    have HXV := Lib.hid hxV
    clear hxV
    clear a0 a1 a2 a3 a4
    have HB3 := Lib.hid (HB1.out.trans (hbV.mono HB1.out.size))
    have HX3 := Lib.hid ((hbV.block _ (Array.getElem?_eq_some_iff.1 HX1.out).1).trans HX1.out)
    obtain ⟨XB, hXB⟩ : ∃ XB, w1.heap.size = XB := ⟨_, rfl⟩
    rw [hXB] at HXV hBV ⊢
    have HXB := Lib.hid hXB
    have hwXB : w.heap.size ≠ XB := by
      intro e
      have h1 := (Array.getElem?_eq_some_iff.1 HX1.out).1
      omega
    have HwXB := Lib.hid hwXB
    clear hbV hXB hwXB
    refine wp_region_noPanic ?_
    refine wp_region_ph [([0, 1, 3, 4, 6, 7], [2]), ([9], [5, 8, 10, 11, 12, 13, 14])] (fun _ => true) (fun w' => w'.heap[w.heap.size]? = some (.cells #[.int .i64 t.zones, .slice A1 N1 c1, .slice A2 N2 c2, .slice A3 N3 c3, .int .i64 t.window] 24 (0, 0))) (by kernel_rfl) (by kernel_rfl) (fun _ _ _ _ _ h => h) ?_
    have hd : Below V.heap.size V V.drew := (Below.refl _ _).drew
    have Acc0 := Lib.hid hd
    have Sc0 := Lib.hid (((hd.block _ (Array.getElem?_eq_some_iff.1 HX3.out).1).trans HX3.out))
    obtain ⟨wd, hwd⟩ : ∃ W, W = V.drew := ⟨_, rfl⟩
    rw [← hwd] at hd Acc0 Sc0 ⊢
    clear hwd hd
    refine wpPh_cons Sc0.out (fun hne => ?_)
    have n1 := fun x : Meets (fun w' => w'.heap[w.heap.size]? = some (.cells #[.int .i64 t.zones, .slice A1 N1 c1, .slice A2 N2 c2, .slice A3 N3 c3, .int .i64 t.window] 24 (0, 0))) => box_cells x.property 1
    have n2 := fun x : Meets (fun w' => w'.heap[w.heap.size]? = some (.cells #[.int .i64 t.zones, .slice A1 N1 c1, .slice A2 N2 c2, .slice A3 N3 c3, .int .i64 t.window] 24 (0, 0))) => box_cells x.property 2
    have n3 := fun x : Meets (fun w' => w'.heap[w.heap.size]? = some (.cells #[.int .i64 t.zones, .slice A1 N1 c1, .slice A2 N2 c2, .slice A3 N3 c3, .int .i64 t.window] 24 (0, 0))) => box_cells x.property 3
    simp only [List.getElem?_toArray, List.getElem?_cons_zero, List.getElem?_cons_succ] at n1 n2 n3
    simp only [pick, pickN, List.filterMap_cons, List.filterMap_nil, List.getElem?_cons_zero, List.getElem?_cons_succ, Option.map_some]
    repeat (change wpQuiet _ _ _ _ (_ :: _) _; go_big_quiet_step (fail))
    refine wpQuiet_nil ?_
    clear n1 n2 n3 hne
    refine wpSeqK_step (fun K hK => ?_)
    go_simp
    refine (copy_any _ t.singles _ ((HT.out.below HB3.out).below Acc0.out).singles (by have := HN1.out; have := Hl1.out; omega)).mono ?_
    rintro e wq1 ⟨L1, k1, rfl, ho1, hq1⟩
    rw [HN1.out] at ho1 ⊢
    have Ho1 := Lib.hid ho1
    have Hq1 := Lib.hid hq1
    have Acc1 := Lib.hid (Acc0.out.trans (hq1.mono Acc0.out.size))
    have Sc1 := Lib.hid ((hq1.block _ (Array.getElem?_eq_some_iff.1 Sc0.out).1).trans Sc0.out)
    refine hK.out _ _ (fun _ => Sc1.out) ?_
    clear hK K ho1 hq1
    refine wpSeqK_nil ?_
    refine wpPh_cons Sc1.out (fun hne => ?_)
    simp only [pick, pickN, List.filterMap_cons, List.filterMap_nil, List.getElem?_cons_zero, List.getElem?_cons_succ, Option.map_some]
    repeat (change wpQuiet _ _ _ _ (_ :: _) _; go_big_quiet_step (fail))
    refine wpQuiet_nil ?_
    clear  hne
    refine wpSeqK_step (fun K hK => ?_)
    go_simp
    refine (copy_any _ t.days _ ((HT.out.below HB3.out).below Acc1.out).days (by have := HN2.out; have := Hl2.out; omega)).mono ?_
    rintro e wq2 ⟨L2, k2, rfl, ho2, hq2⟩
    rw [HN2.out] at ho2 ⊢
    have Ho2 := Lib.hid ho2
    have Hq2 := Lib.hid hq2
    have Acc2 := Lib.hid (Acc1.out.trans (hq2.mono Acc1.out.size))
    have Sc2 := Lib.hid ((hq2.block _ (Array.getElem?_eq_some_iff.1 Sc1.out).1).trans Sc1.out)
    refine hK.out _ _ (fun _ => Sc2.out) ?_
    clear hK K ho2 hq2
    refine wpSeqK_step (fun K hK => ?_)
    go_simp
    refine (copy_any _ t.weeks _ ((HT.out.below HB3.out).below Acc2.out).weeks (by have := HN3.out; have := Hl3.out; omega)).mono ?_
    rintro e wq3 ⟨L3, k3, rfl, ho3, hq3⟩
    rw [HN3.out] at ho3 ⊢
    have Ho3 := Lib.hid ho3
    have Hq3 := Lib.hid hq3
    have Acc3 := Lib.hid (Acc2.out.trans (hq3.mono Acc2.out.size))
    have Sc3 := Lib.hid ((hq3.block _ (Array.getElem?_eq_some_iff.1 Sc2.out).1).trans Sc2.out)
    refine hK.out _ _ (fun _ => Sc3.out) ?_
    clear hK K ho3 hq3
    have HX3 := Lib.hid ((Acc3.out.block _ hBV).trans HXV.out)
    have hne0 := HwXB.out
    have hY1 := blk_set (o := 1) HX3.out (.slice L1 N1 k1)
    have hY2 := blk_set (o := 2) hY1 (.slice L2 N2 k2)
    have hY3 := blk_set (o := 3) hY2 (.slice L3 N3 k3)
    simp only [List.setIfInBounds_toArray, List.set_cons_succ, List.set_cons_zero] at hY3
    have HY3 := Lib.hid hY3
    have T1 := Lib.hid (blk_other Sc3.out hne0 (.slice L1 N1 k1) (o := 1))
    have T2 := Lib.hid (blk_other T1.out hne0 (.slice L2 N2 k2) (o := 2))
    have T3 := Lib.hid (blk_other T2.out hne0 (.slice L3 N3 k3) (o := 3))
    clear hY1 hY2 hY3 hne0
    have xc := box_cells HX3.out
    have xf := box_frozen HX3.out
    refine wpSeqK_step (fun K hK => ?_)
    go_simp
    refine hK.out _ _ (fun _ => T1.out) ?_
    clear hK K
    refine wpSeqK_step (fun K hK => ?_)
    go_simp
    refine hK.out _ _ (fun _ => T1.out) ?_
    clear hK K
    refine wpSeqK_step (fun K hK => ?_)
    go_simp
    refine hK.out _ _ (fun _ => T2.out) ?_
    clear hK K
    refine wpSeqK_step (fun K hK => ?_)
    go_simp
    refine hK.out _ _ (fun _ => T2.out) ?_
    clear hK K
    refine wpSeqK_step (fun K hK => ?_)
    go_simp
    refine hK.out _ _ (fun _ => T3.out) ?_
    clear hK K
    refine wpSeqK_nil ?_
    refine wpPh_nil ?_
    refine NoPanic.normal ?_
    clear xc xf
    obtain ⟨g1, rfl, hg1, hG1⟩ := own_some Ho1.out (by have := Hl1.out; omega)
    obtain ⟨g2, rfl, hg2, hG2⟩ := own_some Ho2.out (by have := Hl2.out; omega)
    obtain ⟨g3, rfl, hg3, hG3⟩ := own_some Ho3.out (by have := Hl3.out; omega)
    have hs0 := Acc0.out.size
    have hs2 := Hq2.out.size
    have hs3 := Hq3.out.size
    have hwV := HB3.out.size
    have hXw : w.heap.size ≤ XB := by have := HXB.out; omega
    have gr := grown_set (grown_set (grown_set (World.grownBy.refl wq3 (some XB)) 1 (.slice (some ⟨g1, 0, none⟩) N1 k1)) 2 (.slice (some ⟨g2, 0, none⟩) N2 k2)) 3 (.slice (some ⟨g3, 0, none⟩) N3 k3)
    have O1 := (own_below (own_below Ho1.out Hq2.out) Hq3.out).kept gr (blk_ne (by omega))
    have O2 := (own_below Ho2.out Hq3.out).kept gr (blk_ne (by omega))
    have O3 := Ho3.out.kept gr (blk_ne (by omega))
    have hB4 := (((HB3.out.trans (Acc3.out.mono HB3.out.size)).setCell (p := ⟨XB, 1, none⟩) hXw (.slice (some ⟨g1, 0, none⟩) N1 k1)).setCell (p := ⟨XB, 2, none⟩) hXw (.slice (some ⟨g2, 0, none⟩) N2 k2)).setCell (p := ⟨XB, 3, none⟩) hXw (.slice (some ⟨g3, 0, none⟩) N3 k3)
    have HO1 := Lib.hid O1
    have HO2 := Lib.hid O2
    have HO3 := Lib.hid O3
    have hxg1 : XB < g1 := by omega
    have hxg2 : g1 < g2 := by omega
    have hxg3 : g2 < g3 := by omega
    have hgs : wq3.heap.size = (((wq3.setCell ⟨XB, 1, none⟩ (.slice (some ⟨g1, 0, none⟩) N1 k1)).setCell ⟨XB, 2, none⟩ (.slice (some ⟨g2, 0, none⟩) N2 k2)).setCell ⟨XB, 3, none⟩ (.slice (some ⟨g3, 0, none⟩) N3 k3)).heap.size := by simp
    generalize wd.heap.size = b1 at *
    generalize wq1.heap.size = b2 at *
    generalize wq2.heap.size = b3 at *
    obtain ⟨V4, hV4⟩ : ∃ V4, ((wq3.setCell ⟨XB, 1, none⟩ (.slice (some ⟨g1, 0, none⟩) N1 k1)).setCell ⟨XB, 2, none⟩ (.slice (some ⟨g2, 0, none⟩) N2 k2)).setCell ⟨XB, 3, none⟩ (.slice (some ⟨g3, 0, none⟩) N3 k3) = V4 := ⟨_, rfl⟩
    rw [hV4] at HO1 HO2 HO3 hB4 HY3 T3 ⊢
    have HB4 := Lib.hid hB4
    have HX4 := T3
    clear hV4 O1 O2 O3 hB4 gr hgs hs0 hs2 hs3 T1 T2 T3 Sc0 Sc1 Sc2 Sc3 Acc0 Acc1 Acc2 Acc3 Ho1 Ho2 Ho3 Hq1 Hq2 Hq3 HX3
    have HwX := Lib.hid (show w.heap.size ≠ XB from HwXB.out)
    obtain ⟨m, hm⟩ : ∃ m : Nat, n3 % 20 = m := ⟨_, rfl⟩
    have hml : m < 20 := by omega
    have hmT : (n3 : Int).tmod 20 = (m : Int) := by rw [Int.tmod_eq_emod_of_nonneg (by omega)]; omega
    obtain ⟨z, hz⟩ : ∃ z : Nat, n2 % zn = z := ⟨_, rfl⟩
    have hzl : z < zn := by rw [← hz]; exact Nat.mod_lt _ (by omega)
    have ez : ¬ t.zones = 0 := by have := Hzn.out; omega
    have hzT : (n2 : Int).tmod t.zones = (z : Int) := by rw [Hzn.out, Int.tmod_eq_emod_of_nonneg (by omega), ← hz]; rfl
    obtain ⟨kw, hkw⟩ : ∃ k : Nat, n1 % 4 = k := ⟨_, rfl⟩
    have hkl : kw < 4 := by omega
    have hkT : (n1 : Int).tmod 4 = (kw : Int) := by rw [Int.tmod_eq_emod_of_nonneg (by omega)]; omega
    have dv2 : IntKind.i64.wrap (n2 : Int) = (n2 : Int) := IntWalk.i64_in _ (by omega)
    have dv3 : IntKind.i64.wrap (n3 : Int) = (n3 : Int) := IntWalk.i64_in _ (by omega)
    have ew1 : IntKind.i64.wrap (m : Int) = (m : Int) := IntWalk.i64_in _ (by omega)
    have ew2 : IntKind.i64.wrap (z : Int) = (z : Int) := IntWalk.i64_in _ (by omega)
    have ew3 : IntKind.u8.wrap (kw : Int) = (kw : Int) := by unfold IntKind.wrap; simp [IntKind.signed, IntKind.bits]; omega
    clear hm hz hkw hn1 hn2 hn3
    have aq := box_cells HX4.out
    have a0 := aq 0
    have a1 := aq 1
    have a2 := aq 2
    have a3 := aq 3
    have a4 := aq 4
    simp only [List.getElem?_toArray, List.getElem?_cons_zero, List.getElem?_cons_succ] at a0 a1 a2 a3 a4
    clear aq
    have hkc : kw = 0 ∨ kw = 1 ∨ kw = 2 ∨ kw = 3 := by omega
    rcases hkc with hk | hk | hk | hk
    · have q0 : ((kw : Int) == 0) = true := by rw [hk]; rfl
      clear hk
      obtain ⟨y, hy⟩ : ∃ y, t.singles[z]? = some y := ⟨_, List.getElem?_eq_getElem (by have := HN1.out; have := Hl1.out; omega)⟩
      have hyb : 0 ≤ y ∧ y ≤ 10000 := (kindL_ok Htar.out 0).2 y (by simpa [kindL] using List.mem_of_getElem? hy)
      have hcy : V4.cell? ⟨g1, z, none⟩ = some (.int .i64 y) := (HO1.out.cellAt z (by have := Hl1.out; omega)).trans (show (t.singles.map (Value.int .i64))[z]? = some (.int .i64 y) by rw [List.getElem?_map, hy]; rfl)
      have hvw : IntKind.i64.wrap (y - (m : Int)) = y - (m : Int) := IntWalk.i64_in _ (by omega)
      have izz : (z : Int) < (N1 : Int) := by have := Hl1.out; omega
      have HC0 := Lib.hid (cheaper0 Htar.out Hth.out hy (v := max 0 (y - (m : Int))) (by omega) (by omega))
      have hd : Below V4.heap.size V4 V4.drew := (Below.refl _ _).drew
      clear hy hyb
      have xq := box_cells HY3.out
      have x0 := xq 0
      have x1 := xq 1
      have x2 := xq 2
      have x3 := xq 3
      have x4 := xq 4
      simp only [List.getElem?_toArray, List.getElem?_cons_zero, List.getElem?_cons_succ] at x0 x1 x2 x3 x4
      clear xq
      go_upto_region 10 with (fail)
      clear a0 a1 a2 a3 a4
      refine wp_region_noPanic ?_
      refine wp_region_pick [0, 1, 2, 3, 4, 5, 6, 7, 8, 9] [10, 11, 12] (fun i => !(i == 12)) (fun w' => Below V4.heap.size V4 w') (by kernel_rfl) (by kernel_rfl) (fun _ _ _ _ _ h => h) hd (fun hne => ?_)
      have n0 := fun q : Meets (fun w' => Below V4.heap.size V4 w') => cell_below q.property x1
      have n1 := fun q : Meets (fun w' => Below V4.heap.size V4 w') => cell_below q.property hcy
      simp only [pick, pickN, List.filterMap_cons, List.filterMap_nil, List.getElem?_cons_zero, List.getElem?_cons_succ, Option.map_some]
      repeat (change wpQuiet _ _ _ _ (_ :: _) _; go_big_quiet_step (fail))
      refine wpQuiet_nil ?_
      clear n0 n1 hne x0 x1 x2 x3 x4
      have D1 := Lib.hid (own_below HO1.out hd)
      have D2 := Lib.hid (own_below HO2.out hd)
      have D3 := Lib.hid (own_below HO3.out hd)
      have fz := fun o => D1.out.frozenAt o
      have cy := cell_below hd hcy
      have DB := Lib.hid (HB4.out.trans (hd.mono HB4.out.size))
      have DX := Lib.hid ((hd.block _ (Array.getElem?_eq_some_iff.1 HX4.out).1).trans HX4.out)
      have DY := Lib.hid ((hd.block _ (Array.getElem?_eq_some_iff.1 HY3.out).1).trans HY3.out)
      clear hcy
      obtain ⟨wd4, hwd4⟩ : ∃ W, W = V4.drew := ⟨_, rfl⟩
      rw [← hwd4] at hd D1 D2 D3 fz cy DB DX DY ⊢
      clear hwd4
      refine wpSeqP_step (fun K hK => ?_)
      go_simp
      refine hK.out _ _ (fun _ => hd) ?_
      clear hK K
      refine wpSeqP_step (fun K hK => ?_)
      go_simp
      refine hK.out _ _ (fun _ => hd) ?_
      clear hK K
      refine wpSeqP_step (fun K hK => ?_)
      go_simp
      refine hK.out _ _ (fun h => by cases h) ?_
      clear hK K
      refine wpSeqP_nil ?_
      refine NoPanic.normal ?_
      have hst := D1.out.stored z (.int .i64 (max 0 (y - (m : Int))))
      have hst1 := hst.1
      rw [← List.map_set] at hst1
      obtain ⟨u, hu⟩ : ∃ u, { t with singles := t.singles.set z (max 0 (y - (m : Int))) } = u := ⟨_, rfl⟩
      rw [hu] at HC0
      have HC := HC0
      have Hzu := Lib.hid (HC.out.rides Hz.out)
      clear HC0 fz cy hd
      have hgw : w.heap.size ≠ g1 := by omega
      have hxg : XB ≠ g1 := by omega
      go_upto_region 15 with (fail)
      refine wp_name (fun W => Below w.heap.size w W ∧ W.heap[w.heap.size]? = some (.cells #[.int .i64 t.zones, .slice A1 N1 c1, .slice A2 N2 c2, .slice A3 N3 c3, .int .i64 t.window] 24 (0, 0)) ∧ W.heap[XB]? = some (.cells #[.int .i64 u.zones, .slice (some ⟨g1, 0, none⟩) N1 k1, .slice (some ⟨g2, 0, none⟩) N2 k2, .slice (some ⟨g3, 0, none⟩) N3 k3, .int .i64 u.window] 24 (0, 0)) ∧ TarAt W (.slice (some ⟨g1, 0, none⟩) N1 k1) (.slice (some ⟨g2, 0, none⟩) N2 k2) (.slice (some ⟨g3, 0, none⟩) N3 k3) u) ⟨DB.out.setCell (p := ⟨g1, z, none⟩) (by simp only; omega) _, blk_other DX.out hgw _, by subst hu; exact blk_other DY.out hxg _, by subst hu; exact ⟨nums_of_own hst1, nums_of_own (D2.out.kept hst.2 (blk_ne (by omega))), nums_of_own (D3.out.kept hst.2 (blk_ne (by omega)))⟩⟩ (fun V5 hV5 => ?_)
      obtain ⟨hv1, hv2, hv3, hv4⟩ := hV5
      have HB5 := Lib.hid hv1
      have HX5 := Lib.hid hv2
      have HXx := Lib.hid hv3
      have HTx := Lib.hid hv4
      clear hv1 hv2 hv3 hv4
      have aq := box_cells HX5.out
      have a0 := aq 0
      have a1 := aq 1
      have a2 := aq 2
      have a3 := aq 3
      have a4 := aq 4
      simp only [List.getElem?_toArray, List.getElem?_cons_zero, List.getElem?_cons_succ] at a0 a1 a2 a3 a4
      clear aq
      go_wp2_with fail
      refine (Tariff_law t _ _ _ _ (HT.out.below HB5.out) Hth.out).mono ?_
      rintro e xa6 ⟨pa6, pb6, pc6, rfl, hT6, hxa6⟩
      clear a0 a1 a2 a3 a4
      have HB7 := Lib.hid (HB5.out.trans (hxa6.mono HB5.out.size))
      have HX7 := Lib.hid ((hxa6.block _ (Array.getElem?_eq_some_iff.1 HX5.out).1).trans HX5.out)
      have HTx := Lib.hid (HTx.out.below hxa6)
      have HXx := Lib.hid ((hxa6.block _ (Array.getElem?_eq_some_iff.1 HXx.out).1).trans HXx.out)
      go_wp2_with fail
      refine (Rides_law _ _ _ (Hv.out.below HB7.out) (by have := HN.out; omega)).mono ?_
      rintro e xb6 ⟨pA6, pk6, rfl, hr6, hxb6⟩
      have hT6 := hT6.below hxb6
      have HB8 := Lib.hid (HB7.out.trans (hxb6.mono HB7.out.size))
      have HX8 := Lib.hid ((hxb6.block _ (Array.getElem?_eq_some_iff.1 HX7.out).1).trans HX7.out)
      have HTx := Lib.hid (HTx.out.below hxb6)
      have HXx := Lib.hid ((hxb6.block _ (Array.getElem?_eq_some_iff.1 HXx.out).1).trans HXx.out)
      go_wp2_with fail
      refine (Tickets_any t pa6 pb6 pc6 _ l _ hT6 hr6 (by have := HN.out; omega)).mono ?_
      rintro e xc6 ⟨hxc6, _, hg6⟩
      obtain ⟨TA6, Tk6, rfl, _⟩ := hg6 Hz.out
      obtain ⟨p6, hp6⟩ : ∃ p, (chargeT t (onceL l)).1 = p := ⟨_, rfl⟩
      rw [hp6]
      generalize (chargeT t (onceL l)).2.length = tn6
      have Hp6 := Lib.hid hp6
      clear hg6 hp6 hT6 hr6
      have HB9 := Lib.hid (HB8.out.trans (hxc6.mono HB8.out.size))
      have HX9 := Lib.hid ((hxc6.block _ (Array.getElem?_eq_some_iff.1 HX8.out).1).trans HX8.out)
      have HTx := Lib.hid (HTx.out.below hxc6)
      have HXx := Lib.hid ((hxc6.block _ (Array.getElem?_eq_some_iff.1 HXx.out).1).trans HXx.out)
      clear hxc6
      have xq := box_cells HXx.out
      have x0 := xq 0
      have x1 := xq 1
      have x2 := xq 2
      have x3 := xq 3
      have x4 := xq 4
      simp only [List.getElem?_toArray, List.getElem?_cons_zero, List.getElem?_cons_succ] at x0 x1 x2 x3 x4
      clear xq
      go_wp2_with fail
      refine (Tariff_law u _ _ _ _ HTx.out HC.out.thin).mono ?_
      rintro e xa10 ⟨pa10, pb10, pc10, rfl, hT10, hxa10⟩
      clear x0 x1 x2 x3 x4
      have HB11 := Lib.hid (HB9.out.trans (hxa10.mono HB9.out.size))
      have HX11 := Lib.hid ((hxa10.block _ (Array.getElem?_eq_some_iff.1 HX9.out).1).trans HX9.out)
      go_wp2_with fail
      refine (Rides_law _ l _ (Hv.out.below HB11.out) (by have := HN.out; omega)).mono ?_
      rintro e xb10 ⟨pA10, pk10, rfl, hr10, hxb10⟩
      have hT10 := hT10.below hxb10
      have HB12 := Lib.hid (HB11.out.trans (hxb10.mono HB11.out.size))
      have HX12 := Lib.hid ((hxb10.block _ (Array.getElem?_eq_some_iff.1 HX11.out).1).trans HX11.out)
      go_wp2_with fail
      refine (Tickets_any u pa10 pb10 pc10 _ l _ hT10 hr10 (by have := HN.out; omega)).mono ?_
      rintro e xc10 ⟨hxc10, _, hg10⟩
      obtain ⟨TA10, Tk10, rfl, _⟩ := hg10 Hzu.out
      obtain ⟨p10, hp10⟩ : ∃ p, (chargeT u (onceL l)).1 = p := ⟨_, rfl⟩
      rw [hp10]
      generalize (chargeT u (onceL l)).2.length = tn10
      have Hp10 := Lib.hid hp10
      clear hg10 hp10 hT10 hr10
      have HB13 := Lib.hid (HB12.out.trans (hxc10.mono HB12.out.size))
      have HX13 := Lib.hid ((hxc10.block _ (Array.getElem?_eq_some_iff.1 HX12.out).1).trans HX12.out)
      clear hxc10
      have hle : p10 ≤ p6 := by
        rw [← Hp10.out, ← Hp6.out]
        exact least_cheaper HC.out.zones HC.out.win HC.out.price (price_least Hz.out) (price_least Hzu.out)
      have hled : decide (p10 ≤ p6) = true := decide_eq_true hle
      clear hle
      go_wp2_with fail
      refine (awake_any _).mono ?_
      rintro e wz14 ⟨rfl, hbz14⟩
      go_wp2
      go_ret
      exact ⟨rfl, HB13.out.trans (hbz14.mono HB13.out.size)⟩
    · have q0 : ((kw : Int) == 0) = false := by rw [Bool.eq_false_iff]; simp only [ne_eq, beq_iff_eq]; omega
      have q1 : ((kw : Int) == 1) = true := by rw [hk]; rfl
      clear hk
      obtain ⟨y, hy⟩ : ∃ y, t.days[z]? = some y := ⟨_, List.getElem?_eq_getElem (by have := HN2.out; have := Hl2.out; omega)⟩
      have hyb : 0 ≤ y ∧ y ≤ 10000 := (kindL_ok Htar.out 1).2 y (by simpa [kindL] using List.mem_of_getElem? hy)
      have hcy : V4.cell? ⟨g2, z, none⟩ = some (.int .i64 y) := (HO2.out.cellAt z (by have := Hl2.out; omega)).trans (show (t.days.map (Value.int .i64))[z]? = some (.int .i64 y) by rw [List.getElem?_map, hy]; rfl)
      have hvw : IntKind.i64.wrap (y - (m : Int)) = y - (m : Int) := IntWalk.i64_in _ (by omega)
      have izz : (z : Int) < (N2 : Int) := by have := Hl2.out; omega
      have HC0 := Lib.hid (cheaper1 Htar.out Hth.out hy (v := max 0 (y - (m : Int))) (by omega) (by omega))
      have hd : Below V4.heap.size V4 V4.drew := (Below.refl _ _).drew
      clear hy hyb
      have xq := box_cells HY3.out
      have x0 := xq 0
      have x1 := xq 1
      have x2 := xq 2
      have x3 := xq 3
      have x4 := xq 4
      simp only [List.getElem?_toArray, List.getElem?_cons_zero, List.getElem?_cons_succ] at x0 x1 x2 x3 x4
      clear xq
      go_upto_region 12 with (fail)
      clear a0 a1 a2 a3 a4
      refine wp_region_noPanic ?_
      refine wp_region_pick [0, 1, 2, 3, 4, 5, 6, 7, 8, 9] [10, 11, 12] (fun i => !(i == 12)) (fun w' => Below V4.heap.size V4 w') (by kernel_rfl) (by kernel_rfl) (fun _ _ _ _ _ h => h) hd (fun hne => ?_)
      have n0 := fun q : Meets (fun w' => Below V4.heap.size V4 w') => cell_below q.property x2
      have n1 := fun q : Meets (fun w' => Below V4.heap.size V4 w') => cell_below q.property hcy
      simp only [pick, pickN, List.filterMap_cons, List.filterMap_nil, List.getElem?_cons_zero, List.getElem?_cons_succ, Option.map_some]
      repeat (change wpQuiet _ _ _ _ (_ :: _) _; go_big_quiet_step (fail))
      refine wpQuiet_nil ?_
      clear n0 n1 hne x0 x1 x2 x3 x4
      have D1 := Lib.hid (own_below HO1.out hd)
      have D2 := Lib.hid (own_below HO2.out hd)
      have D3 := Lib.hid (own_below HO3.out hd)
      have fz := fun o => D2.out.frozenAt o
      have cy := cell_below hd hcy
      have DB := Lib.hid (HB4.out.trans (hd.mono HB4.out.size))
      have DX := Lib.hid ((hd.block _ (Array.getElem?_eq_some_iff.1 HX4.out).1).trans HX4.out)
      have DY := Lib.hid ((hd.block _ (Array.getElem?_eq_some_iff.1 HY3.out).1).trans HY3.out)
      clear hcy
      obtain ⟨wd4, hwd4⟩ : ∃ W, W = V4.drew := ⟨_, rfl⟩
      rw [← hwd4] at hd D1 D2 D3 fz cy DB DX DY ⊢
      clear hwd4
      refine wpSeqP_step (fun K hK => ?_)
      go_simp
      refine hK.out _ _ (fun _ => hd) ?_
      clear hK K
      refine wpSeqP_step (fun K hK => ?_)
      go_simp
      refine hK.out _ _ (fun _ => hd) ?_
      clear hK K
      refine wpSeqP_step (fun K hK => ?_)
      go_simp
      refine hK.out _ _ (fun h => by cases h) ?_
      clear hK K
      refine wpSeqP_nil ?_
      refine NoPanic.normal ?_
      have hst := D2.out.stored z (.int .i64 (max 0 (y - (m : Int))))
      have hst1 := hst.1
      rw [← List.map_set] at hst1
      obtain ⟨u, hu⟩ : ∃ u, { t with days := t.days.set z (max 0 (y - (m : Int))) } = u := ⟨_, rfl⟩
      rw [hu] at HC0
      have HC := HC0
      have Hzu := Lib.hid (HC.out.rides Hz.out)
      clear HC0 fz cy hd
      have hgw : w.heap.size ≠ g2 := by omega
      have hxg : XB ≠ g2 := by omega
      go_upto_region 15 with (fail)
      refine wp_name (fun W => Below w.heap.size w W ∧ W.heap[w.heap.size]? = some (.cells #[.int .i64 t.zones, .slice A1 N1 c1, .slice A2 N2 c2, .slice A3 N3 c3, .int .i64 t.window] 24 (0, 0)) ∧ W.heap[XB]? = some (.cells #[.int .i64 u.zones, .slice (some ⟨g1, 0, none⟩) N1 k1, .slice (some ⟨g2, 0, none⟩) N2 k2, .slice (some ⟨g3, 0, none⟩) N3 k3, .int .i64 u.window] 24 (0, 0)) ∧ TarAt W (.slice (some ⟨g1, 0, none⟩) N1 k1) (.slice (some ⟨g2, 0, none⟩) N2 k2) (.slice (some ⟨g3, 0, none⟩) N3 k3) u) ⟨DB.out.setCell (p := ⟨g2, z, none⟩) (by simp only; omega) _, blk_other DX.out hgw _, by subst hu; exact blk_other DY.out hxg _, by subst hu; exact ⟨nums_of_own (D1.out.kept hst.2 (blk_ne (by omega))), nums_of_own hst1, nums_of_own (D3.out.kept hst.2 (blk_ne (by omega)))⟩⟩ (fun V5 hV5 => ?_)
      obtain ⟨hv1, hv2, hv3, hv4⟩ := hV5
      have HB15 := Lib.hid hv1
      have HX15 := Lib.hid hv2
      have HXx := Lib.hid hv3
      have HTx := Lib.hid hv4
      clear hv1 hv2 hv3 hv4
      have aq := box_cells HX15.out
      have a0 := aq 0
      have a1 := aq 1
      have a2 := aq 2
      have a3 := aq 3
      have a4 := aq 4
      simp only [List.getElem?_toArray, List.getElem?_cons_zero, List.getElem?_cons_succ] at a0 a1 a2 a3 a4
      clear aq
      go_wp2_with fail
      refine (Tariff_law t _ _ _ _ (HT.out.below HB15.out) Hth.out).mono ?_
      rintro e xa16 ⟨pa16, pb16, pc16, rfl, hT16, hxa16⟩
      clear a0 a1 a2 a3 a4
      have HB17 := Lib.hid (HB15.out.trans (hxa16.mono HB15.out.size))
      have HX17 := Lib.hid ((hxa16.block _ (Array.getElem?_eq_some_iff.1 HX15.out).1).trans HX15.out)
      have HTx := Lib.hid (HTx.out.below hxa16)
      have HXx := Lib.hid ((hxa16.block _ (Array.getElem?_eq_some_iff.1 HXx.out).1).trans HXx.out)
      go_wp2_with fail
      refine (Rides_law _ _ _ (Hv.out.below HB17.out) (by have := HN.out; omega)).mono ?_
      rintro e xb16 ⟨pA16, pk16, rfl, hr16, hxb16⟩
      have hT16 := hT16.below hxb16
      have HB18 := Lib.hid (HB17.out.trans (hxb16.mono HB17.out.size))
      have HX18 := Lib.hid ((hxb16.block _ (Array.getElem?_eq_some_iff.1 HX17.out).1).trans HX17.out)
      have HTx := Lib.hid (HTx.out.below hxb16)
      have HXx := Lib.hid ((hxb16.block _ (Array.getElem?_eq_some_iff.1 HXx.out).1).trans HXx.out)
      go_wp2_with fail
      refine (Tickets_any t pa16 pb16 pc16 _ l _ hT16 hr16 (by have := HN.out; omega)).mono ?_
      rintro e xc16 ⟨hxc16, _, hg16⟩
      obtain ⟨TA16, Tk16, rfl, _⟩ := hg16 Hz.out
      obtain ⟨p16, hp16⟩ : ∃ p, (chargeT t (onceL l)).1 = p := ⟨_, rfl⟩
      rw [hp16]
      generalize (chargeT t (onceL l)).2.length = tn16
      have Hp16 := Lib.hid hp16
      clear hg16 hp16 hT16 hr16
      have HB19 := Lib.hid (HB18.out.trans (hxc16.mono HB18.out.size))
      have HX19 := Lib.hid ((hxc16.block _ (Array.getElem?_eq_some_iff.1 HX18.out).1).trans HX18.out)
      have HTx := Lib.hid (HTx.out.below hxc16)
      have HXx := Lib.hid ((hxc16.block _ (Array.getElem?_eq_some_iff.1 HXx.out).1).trans HXx.out)
      clear hxc16
      have xq := box_cells HXx.out
      have x0 := xq 0
      have x1 := xq 1
      have x2 := xq 2
      have x3 := xq 3
      have x4 := xq 4
      simp only [List.getElem?_toArray, List.getElem?_cons_zero, List.getElem?_cons_succ] at x0 x1 x2 x3 x4
      clear xq
      go_wp2_with fail
      refine (Tariff_law u _ _ _ _ HTx.out HC.out.thin).mono ?_
      rintro e xa20 ⟨pa20, pb20, pc20, rfl, hT20, hxa20⟩
      clear x0 x1 x2 x3 x4
      have HB21 := Lib.hid (HB19.out.trans (hxa20.mono HB19.out.size))
      have HX21 := Lib.hid ((hxa20.block _ (Array.getElem?_eq_some_iff.1 HX19.out).1).trans HX19.out)
      go_wp2_with fail
      refine (Rides_law _ l _ (Hv.out.below HB21.out) (by have := HN.out; omega)).mono ?_
      rintro e xb20 ⟨pA20, pk20, rfl, hr20, hxb20⟩
      have hT20 := hT20.below hxb20
      have HB22 := Lib.hid (HB21.out.trans (hxb20.mono HB21.out.size))
      have HX22 := Lib.hid ((hxb20.block _ (Array.getElem?_eq_some_iff.1 HX21.out).1).trans HX21.out)
      go_wp2_with fail
      refine (Tickets_any u pa20 pb20 pc20 _ l _ hT20 hr20 (by have := HN.out; omega)).mono ?_
      rintro e xc20 ⟨hxc20, _, hg20⟩
      obtain ⟨TA20, Tk20, rfl, _⟩ := hg20 Hzu.out
      obtain ⟨p20, hp20⟩ : ∃ p, (chargeT u (onceL l)).1 = p := ⟨_, rfl⟩
      rw [hp20]
      generalize (chargeT u (onceL l)).2.length = tn20
      have Hp20 := Lib.hid hp20
      clear hg20 hp20 hT20 hr20
      have HB23 := Lib.hid (HB22.out.trans (hxc20.mono HB22.out.size))
      have HX23 := Lib.hid ((hxc20.block _ (Array.getElem?_eq_some_iff.1 HX22.out).1).trans HX22.out)
      clear hxc20
      have hle : p20 ≤ p16 := by
        rw [← Hp20.out, ← Hp16.out]
        exact least_cheaper HC.out.zones HC.out.win HC.out.price (price_least Hz.out) (price_least Hzu.out)
      have hled : decide (p20 ≤ p16) = true := decide_eq_true hle
      clear hle
      go_wp2_with fail
      refine (awake_any _).mono ?_
      rintro e wz24 ⟨rfl, hbz24⟩
      go_wp2
      go_ret
      exact ⟨rfl, HB23.out.trans (hbz24.mono HB23.out.size)⟩
    · have q0 : ((kw : Int) == 0) = false := by rw [Bool.eq_false_iff]; simp only [ne_eq, beq_iff_eq]; omega
      have q1 : ((kw : Int) == 1) = false := by rw [Bool.eq_false_iff]; simp only [ne_eq, beq_iff_eq]; omega
      have q2 : ((kw : Int) == 2) = true := by rw [hk]; rfl
      clear hk
      obtain ⟨y, hy⟩ : ∃ y, t.weeks[z]? = some y := ⟨_, List.getElem?_eq_getElem (by have := HN3.out; have := Hl3.out; omega)⟩
      have hyb : 0 ≤ y ∧ y ≤ 10000 := (kindL_ok Htar.out 2).2 y (by simpa [kindL] using List.mem_of_getElem? hy)
      have hcy : V4.cell? ⟨g3, z, none⟩ = some (.int .i64 y) := (HO3.out.cellAt z (by have := Hl3.out; omega)).trans (show (t.weeks.map (Value.int .i64))[z]? = some (.int .i64 y) by rw [List.getElem?_map, hy]; rfl)
      have hvw : IntKind.i64.wrap (y - (m : Int)) = y - (m : Int) := IntWalk.i64_in _ (by omega)
      have izz : (z : Int) < (N3 : Int) := by have := Hl3.out; omega
      have HC0 := Lib.hid (cheaper2 Htar.out Hth.out hy (v := max 0 (y - (m : Int))) (by omega) (by omega))
      have hd : Below V4.heap.size V4 V4.drew := (Below.refl _ _).drew
      clear hy hyb
      have xq := box_cells HY3.out
      have x0 := xq 0
      have x1 := xq 1
      have x2 := xq 2
      have x3 := xq 3
      have x4 := xq 4
      simp only [List.getElem?_toArray, List.getElem?_cons_zero, List.getElem?_cons_succ] at x0 x1 x2 x3 x4
      clear xq
      go_upto_region 14 with (fail)
      clear a0 a1 a2 a3 a4
      refine wp_region_noPanic ?_
      refine wp_region_pick [0, 1, 2, 3, 4, 5, 6, 7, 8, 9] [10, 11, 12] (fun i => !(i == 12)) (fun w' => Below V4.heap.size V4 w') (by kernel_rfl) (by kernel_rfl) (fun _ _ _ _ _ h => h) hd (fun hne => ?_)
      have n0 := fun q : Meets (fun w' => Below V4.heap.size V4 w') => cell_below q.property x3
      have n1 := fun q : Meets (fun w' => Below V4.heap.size V4 w') => cell_below q.property hcy
      simp only [pick, pickN, List.filterMap_cons, List.filterMap_nil, List.getElem?_cons_zero, List.getElem?_cons_succ, Option.map_some]
      repeat (change wpQuiet _ _ _ _ (_ :: _) _; go_big_quiet_step (fail))
      refine wpQuiet_nil ?_
      clear n0 n1 hne x0 x1 x2 x3 x4
      have D1 := Lib.hid (own_below HO1.out hd)
      have D2 := Lib.hid (own_below HO2.out hd)
      have D3 := Lib.hid (own_below HO3.out hd)
      have fz := fun o => D3.out.frozenAt o
      have cy := cell_below hd hcy
      have DB := Lib.hid (HB4.out.trans (hd.mono HB4.out.size))
      have DX := Lib.hid ((hd.block _ (Array.getElem?_eq_some_iff.1 HX4.out).1).trans HX4.out)
      have DY := Lib.hid ((hd.block _ (Array.getElem?_eq_some_iff.1 HY3.out).1).trans HY3.out)
      clear hcy
      obtain ⟨wd4, hwd4⟩ : ∃ W, W = V4.drew := ⟨_, rfl⟩
      rw [← hwd4] at hd D1 D2 D3 fz cy DB DX DY ⊢
      clear hwd4
      refine wpSeqP_step (fun K hK => ?_)
      go_simp
      refine hK.out _ _ (fun _ => hd) ?_
      clear hK K
      refine wpSeqP_step (fun K hK => ?_)
      go_simp
      refine hK.out _ _ (fun _ => hd) ?_
      clear hK K
      refine wpSeqP_step (fun K hK => ?_)
      go_simp
      refine hK.out _ _ (fun h => by cases h) ?_
      clear hK K
      refine wpSeqP_nil ?_
      refine NoPanic.normal ?_
      have hst := D3.out.stored z (.int .i64 (max 0 (y - (m : Int))))
      have hst1 := hst.1
      rw [← List.map_set] at hst1
      obtain ⟨u, hu⟩ : ∃ u, { t with weeks := t.weeks.set z (max 0 (y - (m : Int))) } = u := ⟨_, rfl⟩
      rw [hu] at HC0
      have HC := HC0
      have Hzu := Lib.hid (HC.out.rides Hz.out)
      clear HC0 fz cy hd
      have hgw : w.heap.size ≠ g3 := by omega
      have hxg : XB ≠ g3 := by omega
      go_upto_region 15 with (fail)
      refine wp_name (fun W => Below w.heap.size w W ∧ W.heap[w.heap.size]? = some (.cells #[.int .i64 t.zones, .slice A1 N1 c1, .slice A2 N2 c2, .slice A3 N3 c3, .int .i64 t.window] 24 (0, 0)) ∧ W.heap[XB]? = some (.cells #[.int .i64 u.zones, .slice (some ⟨g1, 0, none⟩) N1 k1, .slice (some ⟨g2, 0, none⟩) N2 k2, .slice (some ⟨g3, 0, none⟩) N3 k3, .int .i64 u.window] 24 (0, 0)) ∧ TarAt W (.slice (some ⟨g1, 0, none⟩) N1 k1) (.slice (some ⟨g2, 0, none⟩) N2 k2) (.slice (some ⟨g3, 0, none⟩) N3 k3) u) ⟨DB.out.setCell (p := ⟨g3, z, none⟩) (by simp only; omega) _, blk_other DX.out hgw _, by subst hu; exact blk_other DY.out hxg _, by subst hu; exact ⟨nums_of_own (D1.out.kept hst.2 (blk_ne (by omega))), nums_of_own (D2.out.kept hst.2 (blk_ne (by omega))), nums_of_own hst1⟩⟩ (fun V5 hV5 => ?_)
      obtain ⟨hv1, hv2, hv3, hv4⟩ := hV5
      have HB25 := Lib.hid hv1
      have HX25 := Lib.hid hv2
      have HXx := Lib.hid hv3
      have HTx := Lib.hid hv4
      clear hv1 hv2 hv3 hv4
      have aq := box_cells HX25.out
      have a0 := aq 0
      have a1 := aq 1
      have a2 := aq 2
      have a3 := aq 3
      have a4 := aq 4
      simp only [List.getElem?_toArray, List.getElem?_cons_zero, List.getElem?_cons_succ] at a0 a1 a2 a3 a4
      clear aq
      go_wp2_with fail
      refine (Tariff_law t _ _ _ _ (HT.out.below HB25.out) Hth.out).mono ?_
      rintro e xa26 ⟨pa26, pb26, pc26, rfl, hT26, hxa26⟩
      clear a0 a1 a2 a3 a4
      have HB27 := Lib.hid (HB25.out.trans (hxa26.mono HB25.out.size))
      have HX27 := Lib.hid ((hxa26.block _ (Array.getElem?_eq_some_iff.1 HX25.out).1).trans HX25.out)
      have HTx := Lib.hid (HTx.out.below hxa26)
      have HXx := Lib.hid ((hxa26.block _ (Array.getElem?_eq_some_iff.1 HXx.out).1).trans HXx.out)
      go_wp2_with fail
      refine (Rides_law _ _ _ (Hv.out.below HB27.out) (by have := HN.out; omega)).mono ?_
      rintro e xb26 ⟨pA26, pk26, rfl, hr26, hxb26⟩
      have hT26 := hT26.below hxb26
      have HB28 := Lib.hid (HB27.out.trans (hxb26.mono HB27.out.size))
      have HX28 := Lib.hid ((hxb26.block _ (Array.getElem?_eq_some_iff.1 HX27.out).1).trans HX27.out)
      have HTx := Lib.hid (HTx.out.below hxb26)
      have HXx := Lib.hid ((hxb26.block _ (Array.getElem?_eq_some_iff.1 HXx.out).1).trans HXx.out)
      go_wp2_with fail
      refine (Tickets_any t pa26 pb26 pc26 _ l _ hT26 hr26 (by have := HN.out; omega)).mono ?_
      rintro e xc26 ⟨hxc26, _, hg26⟩
      obtain ⟨TA26, Tk26, rfl, _⟩ := hg26 Hz.out
      obtain ⟨p26, hp26⟩ : ∃ p, (chargeT t (onceL l)).1 = p := ⟨_, rfl⟩
      rw [hp26]
      generalize (chargeT t (onceL l)).2.length = tn26
      have Hp26 := Lib.hid hp26
      clear hg26 hp26 hT26 hr26
      have HB29 := Lib.hid (HB28.out.trans (hxc26.mono HB28.out.size))
      have HX29 := Lib.hid ((hxc26.block _ (Array.getElem?_eq_some_iff.1 HX28.out).1).trans HX28.out)
      have HTx := Lib.hid (HTx.out.below hxc26)
      have HXx := Lib.hid ((hxc26.block _ (Array.getElem?_eq_some_iff.1 HXx.out).1).trans HXx.out)
      clear hxc26
      have xq := box_cells HXx.out
      have x0 := xq 0
      have x1 := xq 1
      have x2 := xq 2
      have x3 := xq 3
      have x4 := xq 4
      simp only [List.getElem?_toArray, List.getElem?_cons_zero, List.getElem?_cons_succ] at x0 x1 x2 x3 x4
      clear xq
      go_wp2_with fail
      refine (Tariff_law u _ _ _ _ HTx.out HC.out.thin).mono ?_
      rintro e xa30 ⟨pa30, pb30, pc30, rfl, hT30, hxa30⟩
      clear x0 x1 x2 x3 x4
      have HB31 := Lib.hid (HB29.out.trans (hxa30.mono HB29.out.size))
      have HX31 := Lib.hid ((hxa30.block _ (Array.getElem?_eq_some_iff.1 HX29.out).1).trans HX29.out)
      go_wp2_with fail
      refine (Rides_law _ l _ (Hv.out.below HB31.out) (by have := HN.out; omega)).mono ?_
      rintro e xb30 ⟨pA30, pk30, rfl, hr30, hxb30⟩
      have hT30 := hT30.below hxb30
      have HB32 := Lib.hid (HB31.out.trans (hxb30.mono HB31.out.size))
      have HX32 := Lib.hid ((hxb30.block _ (Array.getElem?_eq_some_iff.1 HX31.out).1).trans HX31.out)
      go_wp2_with fail
      refine (Tickets_any u pa30 pb30 pc30 _ l _ hT30 hr30 (by have := HN.out; omega)).mono ?_
      rintro e xc30 ⟨hxc30, _, hg30⟩
      obtain ⟨TA30, Tk30, rfl, _⟩ := hg30 Hzu.out
      obtain ⟨p30, hp30⟩ : ∃ p, (chargeT u (onceL l)).1 = p := ⟨_, rfl⟩
      rw [hp30]
      generalize (chargeT u (onceL l)).2.length = tn30
      have Hp30 := Lib.hid hp30
      clear hg30 hp30 hT30 hr30
      have HB33 := Lib.hid (HB32.out.trans (hxc30.mono HB32.out.size))
      have HX33 := Lib.hid ((hxc30.block _ (Array.getElem?_eq_some_iff.1 HX32.out).1).trans HX32.out)
      clear hxc30
      have hle : p30 ≤ p26 := by
        rw [← Hp30.out, ← Hp26.out]
        exact least_cheaper HC.out.zones HC.out.win HC.out.price (price_least Hz.out) (price_least Hzu.out)
      have hled : decide (p30 ≤ p26) = true := decide_eq_true hle
      clear hle
      go_wp2_with fail
      refine (awake_any _).mono ?_
      rintro e wz34 ⟨rfl, hbz34⟩
      go_wp2
      go_ret
      exact ⟨rfl, HB33.out.trans (hbz34.mono HB33.out.size)⟩
    · have q0 : ((kw : Int) == 0) = false := by rw [Bool.eq_false_iff]; simp only [ne_eq, beq_iff_eq]; omega
      have q1 : ((kw : Int) == 1) = false := by rw [Bool.eq_false_iff]; simp only [ne_eq, beq_iff_eq]; omega
      have q2 : ((kw : Int) == 2) = false := by rw [Bool.eq_false_iff]; simp only [ne_eq, beq_iff_eq]; omega
      clear hk
      have hvw : IntKind.i64.wrap (3 * (m : Int)) = 3 * (m : Int) := IntWalk.i64_in _ (by omega)
      have hvw2 : IntKind.i64.wrap (t.window + 3 * (m : Int)) = t.window + 3 * (m : Int) := IntWalk.i64_in _ (by omega)
      have HC0 := Lib.hid (cheaper3 Htar.out Hth.out (v := min 1440 (t.window + 3 * (m : Int))) (by omega) (by omega))
      have xq := box_cells HY3.out
      have x0 := xq 0
      have x1 := xq 1
      have x2 := xq 2
      have x3 := xq 3
      have x4 := xq 4
      simp only [List.getElem?_toArray, List.getElem?_cons_zero, List.getElem?_cons_succ] at x0 x1 x2 x3 x4
      clear xq
      have xf := box_frozen HY3.out
      have hxg : w.heap.size ≠ XB := HwX.out
      have hY5 := blk_set (o := 4) HY3.out (.int .i64 (min 1440 (t.window + 3 * (m : Int))))
      simp only [List.setIfInBounds_toArray, List.set_cons_succ, List.set_cons_zero] at hY5
      have HY5 := Lib.hid hY5
      clear hY5
      have gr4 := grown_set (World.grownBy.refl V4 (some XB)) 4 (.int .i64 (min 1440 (t.window + 3 * (m : Int))))
      have Hgr := Lib.hid gr4
      clear gr4
      go_upto_region 15 with (fail)
      clear a0 a1 a2 a3 a4
      obtain ⟨u, hu⟩ : ∃ u, { t with window := min 1440 (t.window + 3 * (m : Int)) } = u := ⟨_, rfl⟩
      rw [hu] at HC0
      have HC := HC0
      have Hzu := Lib.hid (HC.out.rides Hz.out)
      clear HC0 xf x0 x1 x2 x3 x4
      refine wp_name (fun W => Below w.heap.size w W ∧ W.heap[w.heap.size]? = some (.cells #[.int .i64 t.zones, .slice A1 N1 c1, .slice A2 N2 c2, .slice A3 N3 c3, .int .i64 t.window] 24 (0, 0)) ∧ W.heap[XB]? = some (.cells #[.int .i64 u.zones, .slice (some ⟨g1, 0, none⟩) N1 k1, .slice (some ⟨g2, 0, none⟩) N2 k2, .slice (some ⟨g3, 0, none⟩) N3 k3, .int .i64 u.window] 24 (0, 0)) ∧ TarAt W (.slice (some ⟨g1, 0, none⟩) N1 k1) (.slice (some ⟨g2, 0, none⟩) N2 k2) (.slice (some ⟨g3, 0, none⟩) N3 k3) u) ⟨HB4.out.setCell (p := ⟨XB, 4, none⟩) hXw _, blk_other HX4.out hxg _, by subst hu; exact HY5.out, by subst hu; exact ⟨nums_of_own (HO1.out.kept Hgr.out (blk_ne (by omega))), nums_of_own (HO2.out.kept Hgr.out (blk_ne (by omega))), nums_of_own (HO3.out.kept Hgr.out (blk_ne (by omega)))⟩⟩ (fun V5 hV5 => ?_)
      obtain ⟨hv1, hv2, hv3, hv4⟩ := hV5
      have HB35 := Lib.hid hv1
      have HX35 := Lib.hid hv2
      have HXx := Lib.hid hv3
      have HTx := Lib.hid hv4
      clear hv1 hv2 hv3 hv4
      have aq := box_cells HX35.out
      have a0 := aq 0
      have a1 := aq 1
      have a2 := aq 2
      have a3 := aq 3
      have a4 := aq 4
      simp only [List.getElem?_toArray, List.getElem?_cons_zero, List.getElem?_cons_succ] at a0 a1 a2 a3 a4
      clear aq
      go_wp2_with fail
      refine (Tariff_law t _ _ _ _ (HT.out.below HB35.out) Hth.out).mono ?_
      rintro e xa36 ⟨pa36, pb36, pc36, rfl, hT36, hxa36⟩
      clear a0 a1 a2 a3 a4
      have HB37 := Lib.hid (HB35.out.trans (hxa36.mono HB35.out.size))
      have HX37 := Lib.hid ((hxa36.block _ (Array.getElem?_eq_some_iff.1 HX35.out).1).trans HX35.out)
      have HTx := Lib.hid (HTx.out.below hxa36)
      have HXx := Lib.hid ((hxa36.block _ (Array.getElem?_eq_some_iff.1 HXx.out).1).trans HXx.out)
      go_wp2_with fail
      refine (Rides_law _ _ _ (Hv.out.below HB37.out) (by have := HN.out; omega)).mono ?_
      rintro e xb36 ⟨pA36, pk36, rfl, hr36, hxb36⟩
      have hT36 := hT36.below hxb36
      have HB38 := Lib.hid (HB37.out.trans (hxb36.mono HB37.out.size))
      have HX38 := Lib.hid ((hxb36.block _ (Array.getElem?_eq_some_iff.1 HX37.out).1).trans HX37.out)
      have HTx := Lib.hid (HTx.out.below hxb36)
      have HXx := Lib.hid ((hxb36.block _ (Array.getElem?_eq_some_iff.1 HXx.out).1).trans HXx.out)
      go_wp2_with fail
      refine (Tickets_any t pa36 pb36 pc36 _ l _ hT36 hr36 (by have := HN.out; omega)).mono ?_
      rintro e xc36 ⟨hxc36, _, hg36⟩
      obtain ⟨TA36, Tk36, rfl, _⟩ := hg36 Hz.out
      obtain ⟨p36, hp36⟩ : ∃ p, (chargeT t (onceL l)).1 = p := ⟨_, rfl⟩
      rw [hp36]
      generalize (chargeT t (onceL l)).2.length = tn36
      have Hp36 := Lib.hid hp36
      clear hg36 hp36 hT36 hr36
      have HB39 := Lib.hid (HB38.out.trans (hxc36.mono HB38.out.size))
      have HX39 := Lib.hid ((hxc36.block _ (Array.getElem?_eq_some_iff.1 HX38.out).1).trans HX38.out)
      have HTx := Lib.hid (HTx.out.below hxc36)
      have HXx := Lib.hid ((hxc36.block _ (Array.getElem?_eq_some_iff.1 HXx.out).1).trans HXx.out)
      clear hxc36
      have xq := box_cells HXx.out
      have x0 := xq 0
      have x1 := xq 1
      have x2 := xq 2
      have x3 := xq 3
      have x4 := xq 4
      simp only [List.getElem?_toArray, List.getElem?_cons_zero, List.getElem?_cons_succ] at x0 x1 x2 x3 x4
      clear xq
      go_wp2_with fail
      refine (Tariff_law u _ _ _ _ HTx.out HC.out.thin).mono ?_
      rintro e xa40 ⟨pa40, pb40, pc40, rfl, hT40, hxa40⟩
      clear x0 x1 x2 x3 x4
      have HB41 := Lib.hid (HB39.out.trans (hxa40.mono HB39.out.size))
      have HX41 := Lib.hid ((hxa40.block _ (Array.getElem?_eq_some_iff.1 HX39.out).1).trans HX39.out)
      go_wp2_with fail
      refine (Rides_law _ l _ (Hv.out.below HB41.out) (by have := HN.out; omega)).mono ?_
      rintro e xb40 ⟨pA40, pk40, rfl, hr40, hxb40⟩
      have hT40 := hT40.below hxb40
      have HB42 := Lib.hid (HB41.out.trans (hxb40.mono HB41.out.size))
      have HX42 := Lib.hid ((hxb40.block _ (Array.getElem?_eq_some_iff.1 HX41.out).1).trans HX41.out)
      go_wp2_with fail
      refine (Tickets_any u pa40 pb40 pc40 _ l _ hT40 hr40 (by have := HN.out; omega)).mono ?_
      rintro e xc40 ⟨hxc40, _, hg40⟩
      obtain ⟨TA40, Tk40, rfl, _⟩ := hg40 Hzu.out
      obtain ⟨p40, hp40⟩ : ∃ p, (chargeT u (onceL l)).1 = p := ⟨_, rfl⟩
      rw [hp40]
      generalize (chargeT u (onceL l)).2.length = tn40
      have Hp40 := Lib.hid hp40
      clear hg40 hp40 hT40 hr40
      have HB43 := Lib.hid (HB42.out.trans (hxc40.mono HB42.out.size))
      have HX43 := Lib.hid ((hxc40.block _ (Array.getElem?_eq_some_iff.1 HX42.out).1).trans HX42.out)
      clear hxc40
      have hle : p40 ≤ p36 := by
        rw [← Hp40.out, ← Hp36.out]
        exact least_cheaper HC.out.zones HC.out.win HC.out.price (price_least Hz.out) (price_least Hzu.out)
      have hled : decide (p40 ≤ p36) = true := decide_eq_true hle
      clear hle
      go_wp2_with fail
      refine (awake_any _).mono ?_
      rintro e wz44 ⟨rfl, hbz44⟩
      go_wp2
      go_ret
      exact ⟨rfl, HB43.out.trans (hbz44.mono HB43.out.size)⟩
end Go.Proofs.Ytmbkpfkkohpnkaa
