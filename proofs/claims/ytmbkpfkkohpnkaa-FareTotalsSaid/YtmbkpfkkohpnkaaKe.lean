import Derived.Test.YtmbkpfkkohpnkaaKc
import Derived.Deep.CutRange
import Derived.Deep.Cut
set_option linter.unusedVariables false
set_option linter.unusedSimpArgs false
namespace Go.Proofs.Ytmbkpfkkohpnkaa
open Go Go.Proofs Go.RowKit

theorem infoGs : (Try.prog.info? 25).map (fun i => (i.zero, i.size, i.bytes)) = some (some (.slice none 0 0), 1, 24) := by kernel_rfl
set_option maxRecDepth 100000 in
set_option maxHeartbeats 6000000 in
theorem Charge_step (t : Tar) (r : Rd) (rs : List Rd) (gs : List (List Rd)) (a b c v z : Value) (w : World) (hT : TarAt w a b c t) (ht : tarB t = true) (hv : RdsAt w v (r :: rs)) (hz : GsAt w z gs) (hr : rideB t r = true) (hf : GsFit t (rs.length + 1) gs)
    (ih : ∀ (gs : List (List Rd)) (a b c v z : Value) (w : World), TarAt w a b c t → RdsAt w v rs → GsAt w z gs → GsFit t rs.length gs → Calls Try.prog 27 #[.agg #[.int .i64 t.zones, a, b, c, .int .i64 t.window], v, z] w (Gives w (.int .i64 (chargeR t rs gs)))) :
    Calls Try.prog 27 #[.agg #[.int .i64 t.zones, a, b, c, .int .i64 t.window], v, z] w (Gives w (.int .i64 (chargeR t (r :: rs) gs))) := by
  obtain ⟨AV, cv, rfl, hcv, _⟩ := hv.form
  obtain ⟨AZ, cz, rfl, _, _⟩ := hz.form
  obtain ⟨i0, hi0, hz0, hz1, hz2⟩ := info_parts info_rdsR
  obtain ⟨i1, hi1, hy0, hy1, hy2⟩ := info_parts infoGs
  rw [chB_all]
  have h9 : gs.length ≤ 900 := by have := hf.2.1; omega
  have hl9 : ∀ g ∈ gs, g.length ≤ 900 := fun g hg => by have := hf.2.2 g hg; omega
  obtain ⟨M, hM⟩ : ∃ M, gs.length = M := ⟨_, rfl⟩
  obtain ⟨N, hN⟩ : ∃ N, (r :: rs).length = N := ⟨_, rfl⟩
  have hN1 : 1 ≤ N := by rw [← hN]; simp
  rw [hM] at hz h9 ⊢
  rw [hN] at hv hcv ⊢
  obtain ⟨bv, ov, r0, rfl, hr0, e0, e1, e2, e3, _⟩ := hv.at_ (k := 0) (by simp)
  cases hr0
  simp only [Nat.zero_mul, Nat.add_zero] at e0 e1 e2 e3
  have htl := RdsAt.tail hv
  obtain ⟨pv, hpv⟩ : ∃ pv, (if cv = 1 then (some ⟨bv, ov, none⟩ : Option Addr) else some ⟨bv, ov + 4, none⟩) = pv := ⟨_, rfl⟩
  rw [hpv] at htl
  have Hpv := Lib.hid hpv
  have Htl := Lib.hid htl
  have E0 := Lib.hid e0
  have E1 := Lib.hid e1
  have E2 := Lib.hid e2
  have E3 := Lib.hid e3
  have HM := Lib.hid hM
  have HT := Lib.hid hT
  have Ht := Lib.hid ht
  have Hz := Lib.hid hz
  have Hf := Lib.hid hf
  have Hih := Lib.hid ih
  have Hr := Lib.hid hr
  have Hl9 := Lib.hid hl9
  have iN : ((N : Int) == 0) = false := by simp; omega
  have iN1 : (0 : Int) < (N : Int) := by omega
  have hN1' : (1 : Int) ≤ (N : Int) := by omega
  clear hT ht hv hz hf hM hl9 hr ih hN hpv htl e0 e1 e2 e3
  go_enter Try.func27, Try.ntmps27
  go_upto_region 1 with (fail)
  refine wp_name (fun W => Below w.heap.size w W ∧ W.heap[w.heap.size]? = some (.cells #[.int .i64 t.zones, a, b, c, .int .i64 t.window] 24 (0, 0))) ⟨(Below.refl _ _).alloc (Nat.le_refl _) _, heap_alloc_new w _⟩ (fun W0 hW => ?_)
  obtain ⟨hb0, hx0⟩ := hW
  have HB0 := Lib.hid hb0
  have HX0 := Lib.hid hx0
  clear hb0 hx0
  go_upto_region 8 with (fail)
  have Hu0 := Lib.hid (gs_src (Hz.out.below HB0.out))
  obtain ⟨us, hus, hui⟩ := Hu0.out
  have Hus := Lib.hid hus
  have Hui := Lib.hid hui
  clear hus hui Hu0
  obtain ⟨B0, hB0⟩ : ∃ B0, chargeR t rs (gs ++ [[r]]) = B0 := ⟨_, rfl⟩
  have HB00 := Lib.hid hB0
  clear hB0
  have aq := box_cells HX0.out
  have a0 := aq 0
  have a1 := aq 1
  have a2 := aq 2
  have a3 := aq 3
  have a4 := aq 4
  simp only [List.getElem?_toArray, List.getElem?_cons_zero, List.getElem?_cons_succ] at a0 a1 a2 a3 a4
  clear aq
  have e0 := cell_below HB0.out E0.out
  have e1 := cell_below HB0.out E1.out
  have e2 := cell_below HB0.out E2.out
  have e3 := cell_below HB0.out E3.out
  go_cut [9] from 30 to 42 (fun y wx => y = .int .i64 B0 ∧ Below W0.heap.size W0 wx)
  case first =>
    refine wp_region_noPanic ?_
    refine wp_region_pickA [0, 1, 2, 4, 6, 7, 8] 7 (fun _ => true) (fun w' => Below W0.heap.size W0 w') (by kernel_rfl) (by kernel_rfl) (fun _ _ _ _ _ h => h) (Below.refl _ _).drew (fun hne => ?_)
    have n0 := fun x : Meets (fun w' => Below W0.heap.size W0 w') => cell_below x.property a0
    have n1 := fun x : Meets (fun w' => Below W0.heap.size W0 w') => cell_below x.property a1
    have n2 := fun x : Meets (fun w' => Below W0.heap.size W0 w') => cell_below x.property a2
    have n3 := fun x : Meets (fun w' => Below W0.heap.size W0 w') => cell_below x.property a3
    have n4 := fun x : Meets (fun w' => Below W0.heap.size W0 w') => cell_below x.property a4
    have n5 := fun x : Meets (fun w' => Below W0.heap.size W0 w') => cell_below x.property e0
    have n6 := fun x : Meets (fun w' => Below W0.heap.size W0 w') => cell_below x.property e1
    have n7 := fun x : Meets (fun w' => Below W0.heap.size W0 w') => cell_below x.property e2
    have n8 := fun x : Meets (fun w' => Below W0.heap.size W0 w') => cell_below x.property e3
    simp only [pick, pickN, List.filterMap_cons, List.filterMap_nil, List.getElem?_cons_zero, List.getElem?_cons_succ, Option.map_some]
    repeat (change wpQuiet _ _ _ _ (_ :: _) _; go_big_quiet_step (fail))
    refine wpQuiet_nil ?_
    clear n0 n1 n2 n3 n4 n5 n6 n7 n8 hne
    clear a0 a1 a2 a3 a4 e0 e1 e2 e3
    rw [Hpv.out]
    refine wpAnyF_name (fun W => Below W0.heap.size W0 W) (Below.refl _ _).drew (fun V0 hB => ?_)
    refine wpAnyF_two (i := 3) (j := 9) (by kernel_rfl) rfl rfl (fun K hK => ?_) (fun K hK => ?_)
    · skip
      go_simp
      have hB2 := hB.alloc hB.size (.cells #[] 25)
      have hN2 := own_mono (World.ownsRow_lit (base := V0.heap.size) (e := 25) (size := 1) V0 #[] 0 (Nat.le_refl _) (by simp [maxLen]) (by simp)) hB.size
      
      refine hK.out _ _ (fun _ => hB2) ?_
      clear hK K
      refine wpAnyF_name (fun W => Below W0.heap.size W0 W ∧ W.ownsRow W0.heap.size 25 1 (.slice (some ⟨V0.heap.size, 0, none⟩) 0 0) 0 []) ⟨hB2, hN2⟩ (fun V1 hV => ?_)
      clear hB hB2 hN2 
      obtain ⟨hB, hE⟩ := hV
      generalize V0.heap.size = g2 at *
      refine wpAnyF_two (i := 5) (j := 9) (by kernel_rfl) rfl rfl (fun K hK => ?_) (fun K hK => ?_)
      · skip
        refine step_append_src _ rfl (.tmp 33) (.tmp 34) 105 rfl W0.heap.size 25 i1 _ 1 24 Try.underlying105 hi1 hy0 hy1 hy2 rfl (by omega) _ 0 _ rfl hE AZ M cz us rfl (Hus.out.below hB) (GsIn.one Hui.out) (by unfold maxLen; omega) (by omega) hB.size ?_
        intro A4 k5 V3 hA hg _
        have hB2 : Below W0.heap.size W0 V3 := below_grown hB hg hB.size hE (Nat.le_refl _)
        refine hK.out _ _ (fun _ => hB2) ?_
        clear hK K
        simp only [Nat.zero_add, List.nil_append] at hA ⊢
        clear hB hE hg 
        have hB := hB2
        
        clear hB2 
        refine wpAnyF_one (i := 9) (by kernel_rfl) rfl (fun K hK => ?_)
        go_simp
        have hB2 := hB.alloc hB.size (.cells (rdC r).toArray 68)
        have hN2 := heap_alloc_new V3 (.cells (rdC r).toArray 68)
        
        refine hK.out _ _ (fun _ => hB2) ?_
        clear hK K
        refine wpAnyF_name (fun W => Below W0.heap.size W0 W ∧ W.ownsRow W0.heap.size 25 1 (.slice A4 M k5) M us ∧ W.heap[V3.heap.size]? = some (.cells (rdC r).toArray 68 (0, 0))) ⟨hB2, hA.alloc (.cells (rdC r).toArray 68), hN2⟩ (fun V6 hV => ?_)
        clear hB hB2 hN2 hA
        obtain ⟨hB, hA, hC⟩ := hV
        generalize V3.heap.size = g7 at *
        refine wpAnyF_one (i := 10) (by kernel_rfl) rfl (fun K hK => ?_)
        go_simp
        have hB2 := hB.alloc hB.size (.cells #[.slice (some ⟨g7, 0, none⟩) 1 1] 25)
        have hN2 := heap_alloc_new V6 (.cells #[.slice (some ⟨g7, 0, none⟩) 1 1] 25)
        have hnCg9 : g7 ≠ V6.heap.size := by have := (Array.getElem?_eq_some_iff.1 hC).1; omega
        refine hK.out _ _ (fun _ => hB2) ?_
        clear hK K
        refine wpAnyF_name (fun W => Below W0.heap.size W0 W ∧ W.ownsRow W0.heap.size 25 1 (.slice A4 M k5) M us ∧ W.heap[g7]? = some (.cells (rdC r).toArray 68 (0, 0)) ∧ W.heap[V6.heap.size]? = some (.cells #[.slice (some ⟨g7, 0, none⟩) 1 1] 25 (0, 0))) ⟨hB2, hA.alloc (.cells #[.slice (some ⟨g7, 0, none⟩) 1 1] 25), (Below.heap_alloc V6 (.cells #[.slice (some ⟨g7, 0, none⟩) 1 1] 25) _ (Array.getElem?_eq_some_iff.1 hC).1).trans hC, hN2⟩ (fun V8 hV => ?_)
        clear hB hB2 hN2 hA hC
        obtain ⟨hB, hA, hC, hD⟩ := hV
        generalize V6.heap.size = g9 at *
        refine wpAnyF_one (i := 11) (by kernel_rfl) rfl (fun K hK => ?_)
        refine step_append_src _ rfl (.tmp 35) (.tmp 40) 105 rfl W0.heap.size 25 i1 _ 1 24 Try.underlying105 hi1 hy0 hy1 hy2 rfl (by omega) _ M _ rfl hA (some ⟨g9, 0, none⟩) 1 1 [.slice (some ⟨g7, 0, none⟩) 1 1] rfl (src_box (xs := [.slice (some ⟨g7, 0, none⟩) 1 1]) hD rfl) (by simp [Value.oneCell']) (by unfold maxLen; omega) (by omega) hB.size ?_
        intro A11 k12 V10 hF hg _
        have hB2 : Below W0.heap.size W0 V10 := below_grown hB hg hB.size hA (Nat.le_refl _)
        have hC2 := keep_type hA hg hC (by decide)
        refine hK.out _ _ (fun _ => hB2) ?_
        clear hK K
        refine wpAnyF_one (i := 12) (by kernel_rfl) rfl (fun K hK => ?_)
        go_simp
        have hbw := HB0.out.trans (hB2.mono HB0.out.size)
        have hgs := gs_of_in hF ((Hui.out.below hB2).snoc (rds_cell hC2))
        refine (Hih.out _ _ _ _ _ _ _ (HT.out.below hbw) (Htl.out.below hbw) hgs (Hf.out.new Hr.out)).mono ?_
        rintro e V13 ⟨rfl, hb⟩
        have hB3 := hB2.trans (hb.mono hB2.size)
        refine hK.out _ _ (fun _ => hB3) ?_
        clear hK K
        refine wpAnyF_one (i := 13) (by kernel_rfl) rfl (fun K hK => ?_)
        go_simp
        refine hK.out _ _ (fun _ => hB3) ?_
        clear hK K
        refine wpAnyF_done (by kernel_rfl) ?_ _
        refine NoPanic.normal ?_
        go_wp2_with fail
        go_meet
        case rel => exact ⟨by rw [HB00.out], hB3⟩
      · skip
        go_simp
        have hB2 := hB.alloc hB.size (.cells (rdC r).toArray 68)
        have hN2 := heap_alloc_new V1 (.cells (rdC r).toArray 68)
        have hnEg15 : g2 ≠ V1.heap.size := by have := (hE.lt g2 rfl).2; omega
        refine hK.out _ _ (fun _ => hB2) ?_
        clear hK K
        refine wpAnyF_name (fun W => Below W0.heap.size W0 W ∧ W.ownsRow W0.heap.size 25 1 (.slice (some ⟨g2, 0, none⟩) 0 0) 0 [] ∧ W.heap[V1.heap.size]? = some (.cells (rdC r).toArray 68 (0, 0))) ⟨hB2, hE.alloc (.cells (rdC r).toArray 68), hN2⟩ (fun V14 hV => ?_)
        clear hB hB2 hN2 hE
        obtain ⟨hB, hE, hC⟩ := hV
        generalize V1.heap.size = g15 at *
        refine wpAnyF_two (i := 5) (j := 10) (by kernel_rfl) rfl rfl (fun K hK => ?_) (fun K hK => ?_)
        · skip
          refine step_append_src _ rfl (.tmp 33) (.tmp 34) 105 rfl W0.heap.size 25 i1 _ 1 24 Try.underlying105 hi1 hy0 hy1 hy2 rfl (by omega) _ 0 _ rfl hE AZ M cz us rfl (Hus.out.below hB) (GsIn.one Hui.out) (by unfold maxLen; omega) (by omega) hB.size ?_
          intro A17 k18 V16 hA hg _
          have hB2 : Below W0.heap.size W0 V16 := below_grown hB hg hB.size hE (Nat.le_refl _)
          have hC2 := keep_type hE hg hC (by decide)
          refine hK.out _ _ (fun _ => hB2) ?_
          clear hK K
          simp only [Nat.zero_add, List.nil_append] at hA ⊢
          clear hB hE hg hC
          have hB := hB2
          have hC := hC2
          clear hB2 hC2
          refine wpAnyF_one (i := 10) (by kernel_rfl) rfl (fun K hK => ?_)
          go_simp
          have hB2 := hB.alloc hB.size (.cells #[.slice (some ⟨g15, 0, none⟩) 1 1] 25)
          have hN2 := heap_alloc_new V16 (.cells #[.slice (some ⟨g15, 0, none⟩) 1 1] 25)
          have hnCg20 : g15 ≠ V16.heap.size := by have := (Array.getElem?_eq_some_iff.1 hC).1; omega
          refine hK.out _ _ (fun _ => hB2) ?_
          clear hK K
          refine wpAnyF_name (fun W => Below W0.heap.size W0 W ∧ W.ownsRow W0.heap.size 25 1 (.slice A17 M k18) M us ∧ W.heap[g15]? = some (.cells (rdC r).toArray 68 (0, 0)) ∧ W.heap[V16.heap.size]? = some (.cells #[.slice (some ⟨g15, 0, none⟩) 1 1] 25 (0, 0))) ⟨hB2, hA.alloc (.cells #[.slice (some ⟨g15, 0, none⟩) 1 1] 25), (Below.heap_alloc V16 (.cells #[.slice (some ⟨g15, 0, none⟩) 1 1] 25) _ (Array.getElem?_eq_some_iff.1 hC).1).trans hC, hN2⟩ (fun V19 hV => ?_)
          clear hB hB2 hN2 hA hC
          obtain ⟨hB, hA, hC, hD⟩ := hV
          generalize V16.heap.size = g20 at *
          refine wpAnyF_one (i := 11) (by kernel_rfl) rfl (fun K hK => ?_)
          refine step_append_src _ rfl (.tmp 35) (.tmp 40) 105 rfl W0.heap.size 25 i1 _ 1 24 Try.underlying105 hi1 hy0 hy1 hy2 rfl (by omega) _ M _ rfl hA (some ⟨g20, 0, none⟩) 1 1 [.slice (some ⟨g15, 0, none⟩) 1 1] rfl (src_box (xs := [.slice (some ⟨g15, 0, none⟩) 1 1]) hD rfl) (by simp [Value.oneCell']) (by unfold maxLen; omega) (by omega) hB.size ?_
          intro A22 k23 V21 hF hg _
          have hB2 : Below W0.heap.size W0 V21 := below_grown hB hg hB.size hA (Nat.le_refl _)
          have hC2 := keep_type hA hg hC (by decide)
          refine hK.out _ _ (fun _ => hB2) ?_
          clear hK K
          refine wpAnyF_one (i := 12) (by kernel_rfl) rfl (fun K hK => ?_)
          go_simp
          have hbw := HB0.out.trans (hB2.mono HB0.out.size)
          have hgs := gs_of_in hF ((Hui.out.below hB2).snoc (rds_cell hC2))
          refine (Hih.out _ _ _ _ _ _ _ (HT.out.below hbw) (Htl.out.below hbw) hgs (Hf.out.new Hr.out)).mono ?_
          rintro e V24 ⟨rfl, hb⟩
          have hB3 := hB2.trans (hb.mono hB2.size)
          refine hK.out _ _ (fun _ => hB3) ?_
          clear hK K
          refine wpAnyF_one (i := 13) (by kernel_rfl) rfl (fun K hK => ?_)
          go_simp
          refine hK.out _ _ (fun _ => hB3) ?_
          clear hK K
          refine wpAnyF_done (by kernel_rfl) ?_ _
          refine NoPanic.normal ?_
          go_wp2_with fail
          go_meet
          case rel => exact ⟨by rw [HB00.out], hB3⟩
        · skip
          go_simp
          have hB2 := hB.alloc hB.size (.cells #[.slice (some ⟨g15, 0, none⟩) 1 1] 25)
          have hN2 := heap_alloc_new V14 (.cells #[.slice (some ⟨g15, 0, none⟩) 1 1] 25)
          have hnCg26 : g15 ≠ V14.heap.size := by have := (Array.getElem?_eq_some_iff.1 hC).1; omega
          have hnEg26 : g2 ≠ V14.heap.size := by have := (hE.lt g2 rfl).2; omega
          refine hK.out _ _ (fun _ => hB2) ?_
          clear hK K
          refine wpAnyF_name (fun W => Below W0.heap.size W0 W ∧ W.ownsRow W0.heap.size 25 1 (.slice (some ⟨g2, 0, none⟩) 0 0) 0 [] ∧ W.heap[g15]? = some (.cells (rdC r).toArray 68 (0, 0)) ∧ W.heap[V14.heap.size]? = some (.cells #[.slice (some ⟨g15, 0, none⟩) 1 1] 25 (0, 0))) ⟨hB2, hE.alloc (.cells #[.slice (some ⟨g15, 0, none⟩) 1 1] 25), (Below.heap_alloc V14 (.cells #[.slice (some ⟨g15, 0, none⟩) 1 1] 25) _ (Array.getElem?_eq_some_iff.1 hC).1).trans hC, hN2⟩ (fun V25 hV => ?_)
          clear hB hB2 hN2 hE hC
          obtain ⟨hB, hE, hC, hD⟩ := hV
          generalize V14.heap.size = g26 at *
          refine wpAnyF_one (i := 5) (by kernel_rfl) rfl (fun K hK => ?_)
          refine step_append_src _ rfl (.tmp 33) (.tmp 34) 105 rfl W0.heap.size 25 i1 _ 1 24 Try.underlying105 hi1 hy0 hy1 hy2 rfl (by omega) _ 0 _ rfl hE AZ M cz us rfl (Hus.out.below hB) (GsIn.one Hui.out) (by unfold maxLen; omega) (by omega) hB.size ?_
          intro A28 k29 V27 hA hg _
          have hB2 : Below W0.heap.size W0 V27 := below_grown hB hg hB.size hE (Nat.le_refl _)
          have hC2 := keep_type hE hg hC (by decide)
          have hD2 := (hg.block g26 (Array.getElem?_eq_some_iff.1 hD).1 (fun e => by injection e with e; first | exact hnDg2 e | exact hnEg26 e.symm)).trans hD
          refine hK.out _ _ (fun _ => hB2) ?_
          clear hK K
          simp only [Nat.zero_add, List.nil_append] at hA ⊢
          clear hB hE hg hC hD
          have hB := hB2
          have hC := hC2
          have hD := hD2
          clear hB2 hC2 hD2
          refine wpAnyF_one (i := 11) (by kernel_rfl) rfl (fun K hK => ?_)
          refine step_append_src _ rfl (.tmp 35) (.tmp 40) 105 rfl W0.heap.size 25 i1 _ 1 24 Try.underlying105 hi1 hy0 hy1 hy2 rfl (by omega) _ M _ rfl hA (some ⟨g26, 0, none⟩) 1 1 [.slice (some ⟨g15, 0, none⟩) 1 1] rfl (src_box (xs := [.slice (some ⟨g15, 0, none⟩) 1 1]) hD rfl) (by simp [Value.oneCell']) (by unfold maxLen; omega) (by omega) hB.size ?_
          intro A31 k32 V30 hF hg _
          have hB2 : Below W0.heap.size W0 V30 := below_grown hB hg hB.size hA (Nat.le_refl _)
          have hC2 := keep_type hA hg hC (by decide)
          refine hK.out _ _ (fun _ => hB2) ?_
          clear hK K
          refine wpAnyF_one (i := 12) (by kernel_rfl) rfl (fun K hK => ?_)
          go_simp
          have hbw := HB0.out.trans (hB2.mono HB0.out.size)
          have hgs := gs_of_in hF ((Hui.out.below hB2).snoc (rds_cell hC2))
          refine (Hih.out _ _ _ _ _ _ _ (HT.out.below hbw) (Htl.out.below hbw) hgs (Hf.out.new Hr.out)).mono ?_
          rintro e V33 ⟨rfl, hb⟩
          have hB3 := hB2.trans (hb.mono hB2.size)
          refine hK.out _ _ (fun _ => hB3) ?_
          clear hK K
          refine wpAnyF_one (i := 13) (by kernel_rfl) rfl (fun K hK => ?_)
          go_simp
          refine hK.out _ _ (fun _ => hB3) ?_
          clear hK K
          refine wpAnyF_done (by kernel_rfl) ?_ _
          refine NoPanic.normal ?_
          go_wp2_with fail
          go_meet
          case rel => exact ⟨by rw [HB00.out], hB3⟩
    · skip
      go_simp
      have hB2 := hB.alloc hB.size (.cells (rdC r).toArray 68)
      have hN2 := heap_alloc_new V0 (.cells (rdC r).toArray 68)
      
      refine hK.out _ _ (fun _ => hB2) ?_
      clear hK K
      refine wpAnyF_name (fun W => Below W0.heap.size W0 W ∧ W.heap[V0.heap.size]? = some (.cells (rdC r).toArray 68 (0, 0))) ⟨hB2, hN2⟩ (fun V34 hV => ?_)
      clear hB hB2 hN2 
      obtain ⟨hB, hC⟩ := hV
      generalize V0.heap.size = g35 at *
      refine wpAnyF_two (i := 3) (j := 10) (by kernel_rfl) rfl rfl (fun K hK => ?_) (fun K hK => ?_)
      · skip
        go_simp
        have hB2 := hB.alloc hB.size (.cells #[] 25)
        have hN2 := own_mono (World.ownsRow_lit (base := V34.heap.size) (e := 25) (size := 1) V34 #[] 0 (Nat.le_refl _) (by simp [maxLen]) (by simp)) hB.size
        have hnCg37 : g35 ≠ V34.heap.size := by have := (Array.getElem?_eq_some_iff.1 hC).1; omega
        refine hK.out _ _ (fun _ => hB2) ?_
        clear hK K
        refine wpAnyF_name (fun W => Below W0.heap.size W0 W ∧ W.ownsRow W0.heap.size 25 1 (.slice (some ⟨V34.heap.size, 0, none⟩) 0 0) 0 [] ∧ W.heap[g35]? = some (.cells (rdC r).toArray 68 (0, 0))) ⟨hB2, hN2, (Below.heap_alloc V34 (.cells #[] 25) _ (Array.getElem?_eq_some_iff.1 hC).1).trans hC⟩ (fun V36 hV => ?_)
        clear hB hB2 hN2 hC
        obtain ⟨hB, hE, hC⟩ := hV
        generalize V34.heap.size = g37 at *
        refine wpAnyF_two (i := 5) (j := 10) (by kernel_rfl) rfl rfl (fun K hK => ?_) (fun K hK => ?_)
        · skip
          refine step_append_src _ rfl (.tmp 33) (.tmp 34) 105 rfl W0.heap.size 25 i1 _ 1 24 Try.underlying105 hi1 hy0 hy1 hy2 rfl (by omega) _ 0 _ rfl hE AZ M cz us rfl (Hus.out.below hB) (GsIn.one Hui.out) (by unfold maxLen; omega) (by omega) hB.size ?_
          intro A39 k40 V38 hA hg _
          have hB2 : Below W0.heap.size W0 V38 := below_grown hB hg hB.size hE (Nat.le_refl _)
          have hC2 := keep_type hE hg hC (by decide)
          refine hK.out _ _ (fun _ => hB2) ?_
          clear hK K
          simp only [Nat.zero_add, List.nil_append] at hA ⊢
          clear hB hE hg hC
          have hB := hB2
          have hC := hC2
          clear hB2 hC2
          refine wpAnyF_one (i := 10) (by kernel_rfl) rfl (fun K hK => ?_)
          go_simp
          have hB2 := hB.alloc hB.size (.cells #[.slice (some ⟨g35, 0, none⟩) 1 1] 25)
          have hN2 := heap_alloc_new V38 (.cells #[.slice (some ⟨g35, 0, none⟩) 1 1] 25)
          have hnCg42 : g35 ≠ V38.heap.size := by have := (Array.getElem?_eq_some_iff.1 hC).1; omega
          refine hK.out _ _ (fun _ => hB2) ?_
          clear hK K
          refine wpAnyF_name (fun W => Below W0.heap.size W0 W ∧ W.ownsRow W0.heap.size 25 1 (.slice A39 M k40) M us ∧ W.heap[g35]? = some (.cells (rdC r).toArray 68 (0, 0)) ∧ W.heap[V38.heap.size]? = some (.cells #[.slice (some ⟨g35, 0, none⟩) 1 1] 25 (0, 0))) ⟨hB2, hA.alloc (.cells #[.slice (some ⟨g35, 0, none⟩) 1 1] 25), (Below.heap_alloc V38 (.cells #[.slice (some ⟨g35, 0, none⟩) 1 1] 25) _ (Array.getElem?_eq_some_iff.1 hC).1).trans hC, hN2⟩ (fun V41 hV => ?_)
          clear hB hB2 hN2 hA hC
          obtain ⟨hB, hA, hC, hD⟩ := hV
          generalize V38.heap.size = g42 at *
          refine wpAnyF_one (i := 11) (by kernel_rfl) rfl (fun K hK => ?_)
          refine step_append_src _ rfl (.tmp 35) (.tmp 40) 105 rfl W0.heap.size 25 i1 _ 1 24 Try.underlying105 hi1 hy0 hy1 hy2 rfl (by omega) _ M _ rfl hA (some ⟨g42, 0, none⟩) 1 1 [.slice (some ⟨g35, 0, none⟩) 1 1] rfl (src_box (xs := [.slice (some ⟨g35, 0, none⟩) 1 1]) hD rfl) (by simp [Value.oneCell']) (by unfold maxLen; omega) (by omega) hB.size ?_
          intro A44 k45 V43 hF hg _
          have hB2 : Below W0.heap.size W0 V43 := below_grown hB hg hB.size hA (Nat.le_refl _)
          have hC2 := keep_type hA hg hC (by decide)
          refine hK.out _ _ (fun _ => hB2) ?_
          clear hK K
          refine wpAnyF_one (i := 12) (by kernel_rfl) rfl (fun K hK => ?_)
          go_simp
          have hbw := HB0.out.trans (hB2.mono HB0.out.size)
          have hgs := gs_of_in hF ((Hui.out.below hB2).snoc (rds_cell hC2))
          refine (Hih.out _ _ _ _ _ _ _ (HT.out.below hbw) (Htl.out.below hbw) hgs (Hf.out.new Hr.out)).mono ?_
          rintro e V46 ⟨rfl, hb⟩
          have hB3 := hB2.trans (hb.mono hB2.size)
          refine hK.out _ _ (fun _ => hB3) ?_
          clear hK K
          refine wpAnyF_one (i := 13) (by kernel_rfl) rfl (fun K hK => ?_)
          go_simp
          refine hK.out _ _ (fun _ => hB3) ?_
          clear hK K
          refine wpAnyF_done (by kernel_rfl) ?_ _
          refine NoPanic.normal ?_
          go_wp2_with fail
          go_meet
          case rel => exact ⟨by rw [HB00.out], hB3⟩
        · skip
          go_simp
          have hB2 := hB.alloc hB.size (.cells #[.slice (some ⟨g35, 0, none⟩) 1 1] 25)
          have hN2 := heap_alloc_new V36 (.cells #[.slice (some ⟨g35, 0, none⟩) 1 1] 25)
          have hnCg48 : g35 ≠ V36.heap.size := by have := (Array.getElem?_eq_some_iff.1 hC).1; omega
          have hnEg48 : g37 ≠ V36.heap.size := by have := (hE.lt g37 rfl).2; omega
          refine hK.out _ _ (fun _ => hB2) ?_
          clear hK K
          refine wpAnyF_name (fun W => Below W0.heap.size W0 W ∧ W.ownsRow W0.heap.size 25 1 (.slice (some ⟨g37, 0, none⟩) 0 0) 0 [] ∧ W.heap[g35]? = some (.cells (rdC r).toArray 68 (0, 0)) ∧ W.heap[V36.heap.size]? = some (.cells #[.slice (some ⟨g35, 0, none⟩) 1 1] 25 (0, 0))) ⟨hB2, hE.alloc (.cells #[.slice (some ⟨g35, 0, none⟩) 1 1] 25), (Below.heap_alloc V36 (.cells #[.slice (some ⟨g35, 0, none⟩) 1 1] 25) _ (Array.getElem?_eq_some_iff.1 hC).1).trans hC, hN2⟩ (fun V47 hV => ?_)
          clear hB hB2 hN2 hE hC
          obtain ⟨hB, hE, hC, hD⟩ := hV
          generalize V36.heap.size = g48 at *
          refine wpAnyF_one (i := 5) (by kernel_rfl) rfl (fun K hK => ?_)
          refine step_append_src _ rfl (.tmp 33) (.tmp 34) 105 rfl W0.heap.size 25 i1 _ 1 24 Try.underlying105 hi1 hy0 hy1 hy2 rfl (by omega) _ 0 _ rfl hE AZ M cz us rfl (Hus.out.below hB) (GsIn.one Hui.out) (by unfold maxLen; omega) (by omega) hB.size ?_
          intro A50 k51 V49 hA hg _
          have hB2 : Below W0.heap.size W0 V49 := below_grown hB hg hB.size hE (Nat.le_refl _)
          have hC2 := keep_type hE hg hC (by decide)
          have hD2 := (hg.block g48 (Array.getElem?_eq_some_iff.1 hD).1 (fun e => by injection e with e; first | exact hnDg37 e | exact hnEg48 e.symm)).trans hD
          refine hK.out _ _ (fun _ => hB2) ?_
          clear hK K
          simp only [Nat.zero_add, List.nil_append] at hA ⊢
          clear hB hE hg hC hD
          have hB := hB2
          have hC := hC2
          have hD := hD2
          clear hB2 hC2 hD2
          refine wpAnyF_one (i := 11) (by kernel_rfl) rfl (fun K hK => ?_)
          refine step_append_src _ rfl (.tmp 35) (.tmp 40) 105 rfl W0.heap.size 25 i1 _ 1 24 Try.underlying105 hi1 hy0 hy1 hy2 rfl (by omega) _ M _ rfl hA (some ⟨g48, 0, none⟩) 1 1 [.slice (some ⟨g35, 0, none⟩) 1 1] rfl (src_box (xs := [.slice (some ⟨g35, 0, none⟩) 1 1]) hD rfl) (by simp [Value.oneCell']) (by unfold maxLen; omega) (by omega) hB.size ?_
          intro A53 k54 V52 hF hg _
          have hB2 : Below W0.heap.size W0 V52 := below_grown hB hg hB.size hA (Nat.le_refl _)
          have hC2 := keep_type hA hg hC (by decide)
          refine hK.out _ _ (fun _ => hB2) ?_
          clear hK K
          refine wpAnyF_one (i := 12) (by kernel_rfl) rfl (fun K hK => ?_)
          go_simp
          have hbw := HB0.out.trans (hB2.mono HB0.out.size)
          have hgs := gs_of_in hF ((Hui.out.below hB2).snoc (rds_cell hC2))
          refine (Hih.out _ _ _ _ _ _ _ (HT.out.below hbw) (Htl.out.below hbw) hgs (Hf.out.new Hr.out)).mono ?_
          rintro e V55 ⟨rfl, hb⟩
          have hB3 := hB2.trans (hb.mono hB2.size)
          refine hK.out _ _ (fun _ => hB3) ?_
          clear hK K
          refine wpAnyF_one (i := 13) (by kernel_rfl) rfl (fun K hK => ?_)
          go_simp
          refine hK.out _ _ (fun _ => hB3) ?_
          clear hK K
          refine wpAnyF_done (by kernel_rfl) ?_ _
          refine NoPanic.normal ?_
          go_wp2_with fail
          go_meet
          case rel => exact ⟨by rw [HB00.out], hB3⟩
      · skip
        go_simp
        have hB2 := hB.alloc hB.size (.cells #[.slice (some ⟨g35, 0, none⟩) 1 1] 25)
        have hN2 := heap_alloc_new V34 (.cells #[.slice (some ⟨g35, 0, none⟩) 1 1] 25)
        have hnCg57 : g35 ≠ V34.heap.size := by have := (Array.getElem?_eq_some_iff.1 hC).1; omega
        refine hK.out _ _ (fun _ => hB2) ?_
        clear hK K
        refine wpAnyF_name (fun W => Below W0.heap.size W0 W ∧ W.heap[g35]? = some (.cells (rdC r).toArray 68 (0, 0)) ∧ W.heap[V34.heap.size]? = some (.cells #[.slice (some ⟨g35, 0, none⟩) 1 1] 25 (0, 0))) ⟨hB2, (Below.heap_alloc V34 (.cells #[.slice (some ⟨g35, 0, none⟩) 1 1] 25) _ (Array.getElem?_eq_some_iff.1 hC).1).trans hC, hN2⟩ (fun V56 hV => ?_)
        clear hB hB2 hN2 hC
        obtain ⟨hB, hC, hD⟩ := hV
        generalize V34.heap.size = g57 at *
        refine wpAnyF_one (i := 3) (by kernel_rfl) rfl (fun K hK => ?_)
        go_simp
        have hB2 := hB.alloc hB.size (.cells #[] 25)
        have hN2 := own_mono (World.ownsRow_lit (base := V56.heap.size) (e := 25) (size := 1) V56 #[] 0 (Nat.le_refl _) (by simp [maxLen]) (by simp)) hB.size
        have hnCg59 : g35 ≠ V56.heap.size := by have := (Array.getElem?_eq_some_iff.1 hC).1; omega
        have hnDg59 : g57 ≠ V56.heap.size := by have := (Array.getElem?_eq_some_iff.1 hD).1; omega
        refine hK.out _ _ (fun _ => hB2) ?_
        clear hK K
        refine wpAnyF_name (fun W => Below W0.heap.size W0 W ∧ W.ownsRow W0.heap.size 25 1 (.slice (some ⟨V56.heap.size, 0, none⟩) 0 0) 0 [] ∧ W.heap[g35]? = some (.cells (rdC r).toArray 68 (0, 0)) ∧ W.heap[g57]? = some (.cells #[.slice (some ⟨g35, 0, none⟩) 1 1] 25 (0, 0))) ⟨hB2, hN2, (Below.heap_alloc V56 (.cells #[] 25) _ (Array.getElem?_eq_some_iff.1 hC).1).trans hC, (Below.heap_alloc V56 (.cells #[] 25) _ (Array.getElem?_eq_some_iff.1 hD).1).trans hD⟩ (fun V58 hV => ?_)
        clear hB hB2 hN2 hC hD
        obtain ⟨hB, hE, hC, hD⟩ := hV
        generalize V56.heap.size = g59 at *
        refine wpAnyF_one (i := 5) (by kernel_rfl) rfl (fun K hK => ?_)
        refine step_append_src _ rfl (.tmp 33) (.tmp 34) 105 rfl W0.heap.size 25 i1 _ 1 24 Try.underlying105 hi1 hy0 hy1 hy2 rfl (by omega) _ 0 _ rfl hE AZ M cz us rfl (Hus.out.below hB) (GsIn.one Hui.out) (by unfold maxLen; omega) (by omega) hB.size ?_
        intro A61 k62 V60 hA hg _
        have hB2 : Below W0.heap.size W0 V60 := below_grown hB hg hB.size hE (Nat.le_refl _)
        have hC2 := keep_type hE hg hC (by decide)
        have hD2 := (hg.block g57 (Array.getElem?_eq_some_iff.1 hD).1 (fun e => by injection e with e; first | exact hnDg59 e | exact hnEg57 e.symm)).trans hD
        refine hK.out _ _ (fun _ => hB2) ?_
        clear hK K
        simp only [Nat.zero_add, List.nil_append] at hA ⊢
        clear hB hE hg hC hD
        have hB := hB2
        have hC := hC2
        have hD := hD2
        clear hB2 hC2 hD2
        refine wpAnyF_one (i := 11) (by kernel_rfl) rfl (fun K hK => ?_)
        refine step_append_src _ rfl (.tmp 35) (.tmp 40) 105 rfl W0.heap.size 25 i1 _ 1 24 Try.underlying105 hi1 hy0 hy1 hy2 rfl (by omega) _ M _ rfl hA (some ⟨g57, 0, none⟩) 1 1 [.slice (some ⟨g35, 0, none⟩) 1 1] rfl (src_box (xs := [.slice (some ⟨g35, 0, none⟩) 1 1]) hD rfl) (by simp [Value.oneCell']) (by unfold maxLen; omega) (by omega) hB.size ?_
        intro A64 k65 V63 hF hg _
        have hB2 : Below W0.heap.size W0 V63 := below_grown hB hg hB.size hA (Nat.le_refl _)
        have hC2 := keep_type hA hg hC (by decide)
        refine hK.out _ _ (fun _ => hB2) ?_
        clear hK K
        refine wpAnyF_one (i := 12) (by kernel_rfl) rfl (fun K hK => ?_)
        go_simp
        have hbw := HB0.out.trans (hB2.mono HB0.out.size)
        have hgs := gs_of_in hF ((Hui.out.below hB2).snoc (rds_cell hC2))
        refine (Hih.out _ _ _ _ _ _ _ (HT.out.below hbw) (Htl.out.below hbw) hgs (Hf.out.new Hr.out)).mono ?_
        rintro e V66 ⟨rfl, hb⟩
        have hB3 := hB2.trans (hb.mono hB2.size)
        refine hK.out _ _ (fun _ => hB3) ?_
        clear hK K
        refine wpAnyF_one (i := 13) (by kernel_rfl) rfl (fun K hK => ?_)
        go_simp
        refine hK.out _ _ (fun _ => hB3) ?_
        clear hK K
        refine wpAnyF_done (by kernel_rfl) ?_ _
        refine NoPanic.normal ?_
        go_wp2_with fail
        go_meet
        case rel => exact ⟨by rw [HB00.out], hB3⟩
  case rest =>
    obtain ⟨rfl, hbc⟩ := hcut
    rename World => wc
    have Hbc := Lib.hid hbc
    clear hbc a0 a1 a2 a3 a4 e0 e1 e2 e3
    go_wp2_with fail
    go_loopw [9, 10] (fun sb si wr => ∃ i : Nat, i ≤ M ∧ sb = .int .i64 (chB t rs r gs i) ∧ si = .int .i64 (i : Int) ∧ Below W0.heap.size W0 wr) (fun sb si wr => M - (intOf si).toNat)
    case atStart => exact ⟨0, by omega, by rw [← HB00.out]; rfl, rfl, Hbc.out⟩
    case round =>
      obtain ⟨i, hi, rfl, rfl, hbr⟩ := hrel
      have Hbr := Lib.hid hbr
      by_cases hlt : i < M
      · have ii : (i : Int) < (M : Int) := by omega
        obtain ⟨bz, oz, g, u, ea, hg, cuz, hu, _⟩ := (Hz.out.below HB0.out).at_ (k := i) (by rw [HM.out]; exact hlt)
        subst ea
        have hgl := Hl9.out g (List.mem_of_getElem? hg)
        have hset : gs[i]?.getD [] = g := by rw [hg]; rfl
        have hfit := Hf.out.put Hr.out (i := i) (by rw [HM.out]; exact hlt)
        have hsu := chB_succ t rs r gs i
        rw [hset] at hfit hsu
        obtain ⟨Au, cu, rfl, _, _⟩ := hu.form
        obtain ⟨G, hG⟩ : ∃ G, g.length = G := ⟨_, rfl⟩
        rw [hG] at hu hgl cuz
        have Hsrc := Lib.hid (fun (W : World) (hW : Below W0.heap.size W0 W) => show Src W Au G 4 (g.flatMap rdC) by
          have h := rds_src (hu.below hW)
          rw [hG] at h
          exact h)
        have hi2 : i < gs.length := by rw [HM.out]; exact hlt
        have Hi2 := Lib.hid hi2
        obtain ⟨bo, hbo⟩ : ∃ b, chB t rs r gs i = b := ⟨_, rfl⟩
        obtain ⟨bn, hbn⟩ : ∃ b, chargeR t rs (gs.set i (g ++ [r])) = b := ⟨_, rfl⟩
        rw [hbo, hbn] at hsu
        rw [hbo]
        have Hsu := Lib.hid hsu
        have Hbn := Lib.hid hbn
        have Hfit := Lib.hid hfit
        have Hcu := Lib.hid cuz
        have HG := Lib.hid hG
        clear hsu hbo hbn hset hg hu hfit hi2 cuz hG
        have ho : (wr.alloc (.cells #[] 25)).ownsRow W0.heap.size 25 1 (.slice (some ⟨wr.heap.size, 0, none⟩) 0 0) 0 [] := own_mono (World.ownsRow_lit (base := wr.heap.size) (e := 25) (size := 1) wr #[] 0 (Nat.le_refl _) (by simp [maxLen]) (by simp)) hbr.size
        have hbE := hbr.alloc hbr.size (.cells #[] 25)
        go_wp2_with (at_builtin; refine wpList_append_src _ rfl (.tmp 49) (.tmp 50) 105 rfl W0.heap.size 25 i1 _ 1 24 Try.underlying105 hi1 hy0 hy1 hy2 rfl (by omega) _ 0 [] rfl ho (some ⟨bz, oz, none⟩) M cz us rfl (Hus.out.below hbE) (GsIn.one Hui.out) (by unfold maxLen; omega) (by omega) hbE.size ?_; intro v1 w1 hown1 hg1 hat1)
        rw [Nat.zero_add, List.nil_append] at hown1
        rcases hown1.2 with ⟨_, h0⟩ | ⟨gx, kx, cur, e9, hgb, _⟩
        · omega
        subst e9
        have HX1 := Lib.hid hown1
        have HB1 := Lib.hid (below_grown hbE hg1 hbE.size ho (Nat.le_refl _))
        clear hown1 hg1 hat1 ho hbE hbr
        have e0 := cell_below HB0.out E0.out
        have e1 := cell_below HB0.out E1.out
        have e2 := cell_below HB0.out E2.out
        have e3 := cell_below HB0.out E3.out
        have cu0 := Hcu.out
        go_upto_region 13 with (fail)
        go_cut [11] from 43 to 72 (fun y wx => y = .slice (some ⟨gx, 0, none⟩) M kx ∧ Below W0.heap.size W0 wx ∧ GsAt wx (.slice (some ⟨gx, 0, none⟩) M kx) (gs.set i (g ++ [r])))
        case first =>
          refine wp_region_noPanic ?_
          refine wp_region_pickA [0, 1, 3, 4, 5, 6, 8, 9, 10] 6 (fun _ => true) (fun w' => Below W0.heap.size W0 w') (by kernel_rfl) (by kernel_rfl) (fun _ _ _ _ _ h => h) HB1.out.drew (fun hne => ?_)
          have n0 := fun x : Meets (fun w' => Below W0.heap.size W0 w') => cell_below x.property cu0
          have n1 := fun x : Meets (fun w' => Below W0.heap.size W0 w') => cell_below x.property e0
          have n2 := fun x : Meets (fun w' => Below W0.heap.size W0 w') => cell_below x.property e1
          have n3 := fun x : Meets (fun w' => Below W0.heap.size W0 w') => cell_below x.property e2
          have n4 := fun x : Meets (fun w' => Below W0.heap.size W0 w') => cell_below x.property e3
          simp only [pick, pickN, List.filterMap_cons, List.filterMap_nil, List.getElem?_cons_zero, List.getElem?_cons_succ, Option.map_some]
          repeat (change wpQuiet _ _ _ _ (_ :: _) _; go_big_quiet_step (fail))
          refine wpQuiet_nil ?_
          clear n0 n1 n2 n3 n4 hne
          clear e0 e1 e2 e3 cu0
          refine wpAnyF_name (fun W => Below W0.heap.size W0 W ∧ W.ownsRow W0.heap.size 25 1 (.slice (some ⟨gx, 0, none⟩) M kx) M us) ⟨HB1.out.drew, own_below HX1.out (Below.refl _ _).drew⟩ (fun V0 hV => ?_)
          obtain ⟨hB, hX⟩ := hV
          refine wpAnyF_two (i := 2) (j := 11) (by kernel_rfl) rfl rfl (fun K hK => ?_) (fun K hK => ?_)
          · skip
            go_simp
            have hB2 := hB.alloc hB.size (.cells #[] 68)
            have hN2 := own_mono (World.ownsRow_lit (base := V0.heap.size) (e := 68) (size := 4) V0 #[] 0 (Nat.le_refl _) (by simp [maxLen]) (by simp)) hB.size
            
            refine hK.out _ _ (fun _ => hB2) ?_
            clear hK K
            refine wpAnyF_name (fun W => Below W0.heap.size W0 W ∧ W.ownsRow W0.heap.size 68 4 (.slice (some ⟨V0.heap.size, 0, none⟩) 0 0) 0 [] ∧ W.ownsRow W0.heap.size 25 1 (.slice (some ⟨gx, 0, none⟩) M kx) M us) ⟨hB2, hN2, hX.alloc (.cells #[] 68)⟩ (fun V67 hV => ?_)
            clear hB hB2 hN2 hX
            obtain ⟨hB, hE, hX⟩ := hV
            generalize V0.heap.size = g68 at *
            refine wpAnyF_two (i := 7) (j := 11) (by kernel_rfl) rfl rfl (fun K hK => ?_) (fun K hK => ?_)
            · skip
              refine step_append_src _ rfl (.tmp 54) (.tmp 58) 25 rfl W0.heap.size 68 i0 _ 4 32 Try.underlying25 hi0 hz0 hz1 hz2 rfl (by omega) _ 0 _ rfl hE Au G cu (g.flatMap rdC) rfl (Hsrc.out _ hB) (rds_one g) (by unfold maxLen; omega) (by omega) hB.size ?_
              intro A70 k71 V69 hA hg _
              have hB2 : Below W0.heap.size W0 V69 := below_grown hB hg hB.size hE (Nat.le_refl _)
              have hX2 := hX.kept hg (own_apart hX hE (by decide))
              refine hK.out _ _ (fun _ => hB2) ?_
              clear hK K
              simp only [Nat.zero_add, List.nil_append] at hA ⊢
              clear hB hE hg hX
              have hB := hB2
              have hX := hX2
              clear hB2 hX2
              refine wpAnyF_one (i := 11) (by kernel_rfl) rfl (fun K hK => ?_)
              go_simp
              have hB2 := hB.alloc hB.size (.cells (rdC r).toArray 68)
              have hN2 := heap_alloc_new V69 (.cells (rdC r).toArray 68)
              
              refine hK.out _ _ (fun _ => hB2) ?_
              clear hK K
              refine wpAnyF_name (fun W => Below W0.heap.size W0 W ∧ W.ownsRow W0.heap.size 68 4 (.slice A70 G k71) G (g.flatMap rdC) ∧ W.ownsRow W0.heap.size 25 1 (.slice (some ⟨gx, 0, none⟩) M kx) M us ∧ W.heap[V69.heap.size]? = some (.cells (rdC r).toArray 68 (0, 0))) ⟨hB2, hA.alloc (.cells (rdC r).toArray 68), hX.alloc (.cells (rdC r).toArray 68), hN2⟩ (fun V72 hV => ?_)
              clear hB hB2 hN2 hA hX
              obtain ⟨hB, hA, hX, hC⟩ := hV
              generalize V69.heap.size = g73 at *
              refine wpAnyF_one (i := 12) (by kernel_rfl) rfl (fun K hK => ?_)
              refine step_append_src _ rfl (.tmp 59) (.tmp 63) 25 rfl W0.heap.size 68 i0 _ 4 32 Try.underlying25 hi0 hz0 hz1 hz2 rfl (by omega) _ G _ rfl hA (some ⟨g73, 0, none⟩) 1 1 (rdC r) rfl (src_box (xs := rdC r) hC rfl) (by simp [rdC, Value.oneCell']) (by unfold maxLen; omega) (by omega) hB.size ?_
              intro A75 k76 V74 hF hg _
              have hB2 : Below W0.heap.size W0 V74 := below_grown hB hg hB.size hA (Nat.le_refl _)
              have hX2 := hX.kept hg (own_apart hX hA (by decide))
              refine hK.out _ _ (fun _ => hB2) ?_
              clear hK K
              refine wpAnyF_one (i := 13) (by kernel_rfl) rfl (fun K hK => ?_)
              go_simp
              refine hK.out _ _ (fun _ => hB2) ?_
              clear hK K
              refine wpAnyF_one (i := 14) (by kernel_rfl) rfl (fun K hK => ?_)
              have d0 := hX2.cellAt i (by omega)
              obtain ⟨uo, huo⟩ : ∃ u, us[i]? = some u := ⟨_, List.getElem?_eq_getElem (by have := Hui.out.1; have := HM.out; omega)⟩
              rw [huo] at d0
              have fz := fun o => hX2.frozenAt o
              clear huo
              go_simp
              have hS := hX2.stored i (.slice A75 (G + 1) k76)
              have hB3 := hB2.setCell (p := ⟨gx, i, none⟩) hgb (.slice A75 (G + 1) k76)
              refine hK.out _ _ (fun _ => hB3) ?_
              clear hK K d0 fz
              have hR : RdsAt (V74.setCell ⟨gx, i, none⟩ (.slice A75 (G + 1) k76)) (.slice A75 (G + 1) k76) (g ++ [r]) := by
                refine rds_own (base := W0.heap.size) (e := 68) (n := G + 1) ?_
                rw [show (g ++ [r]).flatMap rdC = g.flatMap rdC ++ rdC r by simp]
                exact hF.kept hS.2 (own_apart hF hX2 (by decide))
              have hgs := gs_of_in hS.1 ((Hui.out.below hB3).set Hi2.out hR)
              refine wpAnyF_done (by kernel_rfl) ?_ _
              refine NoPanic.normal ?_
              go_wp2_with fail
              go_meet
              case rel => exact ⟨rfl, hB3, hgs⟩
            · skip
              go_simp
              have hB2 := hB.alloc hB.size (.cells (rdC r).toArray 68)
              have hN2 := heap_alloc_new V67 (.cells (rdC r).toArray 68)
              have hnEg78 : g68 ≠ V67.heap.size := by have := (hE.lt g68 rfl).2; omega
              refine hK.out _ _ (fun _ => hB2) ?_
              clear hK K
              refine wpAnyF_name (fun W => Below W0.heap.size W0 W ∧ W.ownsRow W0.heap.size 68 4 (.slice (some ⟨g68, 0, none⟩) 0 0) 0 [] ∧ W.ownsRow W0.heap.size 25 1 (.slice (some ⟨gx, 0, none⟩) M kx) M us ∧ W.heap[V67.heap.size]? = some (.cells (rdC r).toArray 68 (0, 0))) ⟨hB2, hE.alloc (.cells (rdC r).toArray 68), hX.alloc (.cells (rdC r).toArray 68), hN2⟩ (fun V77 hV => ?_)
              clear hB hB2 hN2 hE hX
              obtain ⟨hB, hE, hX, hC⟩ := hV
              generalize V67.heap.size = g78 at *
              refine wpAnyF_one (i := 7) (by kernel_rfl) rfl (fun K hK => ?_)
              refine step_append_src _ rfl (.tmp 54) (.tmp 58) 25 rfl W0.heap.size 68 i0 _ 4 32 Try.underlying25 hi0 hz0 hz1 hz2 rfl (by omega) _ 0 _ rfl hE Au G cu (g.flatMap rdC) rfl (Hsrc.out _ hB) (rds_one g) (by unfold maxLen; omega) (by omega) hB.size ?_
              intro A80 k81 V79 hA hg _
              have hB2 : Below W0.heap.size W0 V79 := below_grown hB hg hB.size hE (Nat.le_refl _)
              have hC2 := (hg.block g78 (Array.getElem?_eq_some_iff.1 hC).1 (fun e => by injection e with e; first | exact hnCg68 e | exact hnEg78 e.symm)).trans hC
              have hX2 := hX.kept hg (own_apart hX hE (by decide))
              refine hK.out _ _ (fun _ => hB2) ?_
              clear hK K
              simp only [Nat.zero_add, List.nil_append] at hA ⊢
              clear hB hE hg hC hX
              have hB := hB2
              have hC := hC2
              have hX := hX2
              clear hB2 hC2 hX2
              refine wpAnyF_one (i := 12) (by kernel_rfl) rfl (fun K hK => ?_)
              refine step_append_src _ rfl (.tmp 59) (.tmp 63) 25 rfl W0.heap.size 68 i0 _ 4 32 Try.underlying25 hi0 hz0 hz1 hz2 rfl (by omega) _ G _ rfl hA (some ⟨g78, 0, none⟩) 1 1 (rdC r) rfl (src_box (xs := rdC r) hC rfl) (by simp [rdC, Value.oneCell']) (by unfold maxLen; omega) (by omega) hB.size ?_
              intro A83 k84 V82 hF hg _
              have hB2 : Below W0.heap.size W0 V82 := below_grown hB hg hB.size hA (Nat.le_refl _)
              have hX2 := hX.kept hg (own_apart hX hA (by decide))
              refine hK.out _ _ (fun _ => hB2) ?_
              clear hK K
              refine wpAnyF_one (i := 13) (by kernel_rfl) rfl (fun K hK => ?_)
              go_simp
              refine hK.out _ _ (fun _ => hB2) ?_
              clear hK K
              refine wpAnyF_one (i := 14) (by kernel_rfl) rfl (fun K hK => ?_)
              have d0 := hX2.cellAt i (by omega)
              obtain ⟨uo, huo⟩ : ∃ u, us[i]? = some u := ⟨_, List.getElem?_eq_getElem (by have := Hui.out.1; have := HM.out; omega)⟩
              rw [huo] at d0
              have fz := fun o => hX2.frozenAt o
              clear huo
              go_simp
              have hS := hX2.stored i (.slice A83 (G + 1) k84)
              have hB3 := hB2.setCell (p := ⟨gx, i, none⟩) hgb (.slice A83 (G + 1) k84)
              refine hK.out _ _ (fun _ => hB3) ?_
              clear hK K d0 fz
              have hR : RdsAt (V82.setCell ⟨gx, i, none⟩ (.slice A83 (G + 1) k84)) (.slice A83 (G + 1) k84) (g ++ [r]) := by
                refine rds_own (base := W0.heap.size) (e := 68) (n := G + 1) ?_
                rw [show (g ++ [r]).flatMap rdC = g.flatMap rdC ++ rdC r by simp]
                exact hF.kept hS.2 (own_apart hF hX2 (by decide))
              have hgs := gs_of_in hS.1 ((Hui.out.below hB3).set Hi2.out hR)
              refine wpAnyF_done (by kernel_rfl) ?_ _
              refine NoPanic.normal ?_
              go_wp2_with fail
              go_meet
              case rel => exact ⟨rfl, hB3, hgs⟩
          · skip
            go_simp
            have hB2 := hB.alloc hB.size (.cells (rdC r).toArray 68)
            have hN2 := heap_alloc_new V0 (.cells (rdC r).toArray 68)
            
            refine hK.out _ _ (fun _ => hB2) ?_
            clear hK K
            refine wpAnyF_name (fun W => Below W0.heap.size W0 W ∧ W.ownsRow W0.heap.size 25 1 (.slice (some ⟨gx, 0, none⟩) M kx) M us ∧ W.heap[V0.heap.size]? = some (.cells (rdC r).toArray 68 (0, 0))) ⟨hB2, hX.alloc (.cells (rdC r).toArray 68), hN2⟩ (fun V85 hV => ?_)
            clear hB hB2 hN2 hX
            obtain ⟨hB, hX, hC⟩ := hV
            generalize V0.heap.size = g86 at *
            refine wpAnyF_one (i := 2) (by kernel_rfl) rfl (fun K hK => ?_)
            go_simp
            have hB2 := hB.alloc hB.size (.cells #[] 68)
            have hN2 := own_mono (World.ownsRow_lit (base := V85.heap.size) (e := 68) (size := 4) V85 #[] 0 (Nat.le_refl _) (by simp [maxLen]) (by simp)) hB.size
            have hnCg88 : g86 ≠ V85.heap.size := by have := (Array.getElem?_eq_some_iff.1 hC).1; omega
            refine hK.out _ _ (fun _ => hB2) ?_
            clear hK K
            refine wpAnyF_name (fun W => Below W0.heap.size W0 W ∧ W.ownsRow W0.heap.size 68 4 (.slice (some ⟨V85.heap.size, 0, none⟩) 0 0) 0 [] ∧ W.ownsRow W0.heap.size 25 1 (.slice (some ⟨gx, 0, none⟩) M kx) M us ∧ W.heap[g86]? = some (.cells (rdC r).toArray 68 (0, 0))) ⟨hB2, hN2, hX.alloc (.cells #[] 68), (Below.heap_alloc V85 (.cells #[] 68) _ (Array.getElem?_eq_some_iff.1 hC).1).trans hC⟩ (fun V87 hV => ?_)
            clear hB hB2 hN2 hX hC
            obtain ⟨hB, hE, hX, hC⟩ := hV
            generalize V85.heap.size = g88 at *
            refine wpAnyF_one (i := 7) (by kernel_rfl) rfl (fun K hK => ?_)
            refine step_append_src _ rfl (.tmp 54) (.tmp 58) 25 rfl W0.heap.size 68 i0 _ 4 32 Try.underlying25 hi0 hz0 hz1 hz2 rfl (by omega) _ 0 _ rfl hE Au G cu (g.flatMap rdC) rfl (Hsrc.out _ hB) (rds_one g) (by unfold maxLen; omega) (by omega) hB.size ?_
            intro A90 k91 V89 hA hg _
            have hB2 : Below W0.heap.size W0 V89 := below_grown hB hg hB.size hE (Nat.le_refl _)
            have hC2 := (hg.block g86 (Array.getElem?_eq_some_iff.1 hC).1 (fun e => by injection e with e; first | exact hnCg88 e | exact hnEg86 e.symm)).trans hC
            have hX2 := hX.kept hg (own_apart hX hE (by decide))
            refine hK.out _ _ (fun _ => hB2) ?_
            clear hK K
            simp only [Nat.zero_add, List.nil_append] at hA ⊢
            clear hB hE hg hC hX
            have hB := hB2
            have hC := hC2
            have hX := hX2
            clear hB2 hC2 hX2
            refine wpAnyF_one (i := 12) (by kernel_rfl) rfl (fun K hK => ?_)
            refine step_append_src _ rfl (.tmp 59) (.tmp 63) 25 rfl W0.heap.size 68 i0 _ 4 32 Try.underlying25 hi0 hz0 hz1 hz2 rfl (by omega) _ G _ rfl hA (some ⟨g86, 0, none⟩) 1 1 (rdC r) rfl (src_box (xs := rdC r) hC rfl) (by simp [rdC, Value.oneCell']) (by unfold maxLen; omega) (by omega) hB.size ?_
            intro A93 k94 V92 hF hg _
            have hB2 : Below W0.heap.size W0 V92 := below_grown hB hg hB.size hA (Nat.le_refl _)
            have hX2 := hX.kept hg (own_apart hX hA (by decide))
            refine hK.out _ _ (fun _ => hB2) ?_
            clear hK K
            refine wpAnyF_one (i := 13) (by kernel_rfl) rfl (fun K hK => ?_)
            go_simp
            refine hK.out _ _ (fun _ => hB2) ?_
            clear hK K
            refine wpAnyF_one (i := 14) (by kernel_rfl) rfl (fun K hK => ?_)
            have d0 := hX2.cellAt i (by omega)
            obtain ⟨uo, huo⟩ : ∃ u, us[i]? = some u := ⟨_, List.getElem?_eq_getElem (by have := Hui.out.1; have := HM.out; omega)⟩
            rw [huo] at d0
            have fz := fun o => hX2.frozenAt o
            clear huo
            go_simp
            have hS := hX2.stored i (.slice A93 (G + 1) k94)
            have hB3 := hB2.setCell (p := ⟨gx, i, none⟩) hgb (.slice A93 (G + 1) k94)
            refine hK.out _ _ (fun _ => hB3) ?_
            clear hK K d0 fz
            have hR : RdsAt (V92.setCell ⟨gx, i, none⟩ (.slice A93 (G + 1) k94)) (.slice A93 (G + 1) k94) (g ++ [r]) := by
              refine rds_own (base := W0.heap.size) (e := 68) (n := G + 1) ?_
              rw [show (g ++ [r]).flatMap rdC = g.flatMap rdC ++ rdC r by simp]
              exact hF.kept hS.2 (own_apart hF hX2 (by decide))
            have hgs := gs_of_in hS.1 ((Hui.out.below hB3).set Hi2.out hR)
            refine wpAnyF_done (by kernel_rfl) ?_ _
            refine NoPanic.normal ?_
            go_wp2_with fail
            go_meet
            case rel => exact ⟨rfl, hB3, hgs⟩
        case rest =>
          obtain ⟨rfl, hbx, hgx⟩ := hcut
          rename World => wx
          have Hbx := Lib.hid hbx
          have Hgx := Lib.hid hgx
          clear hbx hgx e0 e1 e2 e3 cu0
          have aq := box_cells HX0.out
          have a0 := aq 0
          have a1 := aq 1
          have a2 := aq 2
          have a3 := aq 3
          have a4 := aq 4
          simp only [List.getElem?_toArray, List.getElem?_cons_zero, List.getElem?_cons_succ] at a0 a1 a2 a3 a4
          clear aq
          go_upto_region 14 with (fail)
          refine wp_region_noPanic ?_
          refine wp_region_pick [0, 1, 2, 3, 4] [5, 6, 7] (fun _ => true) (fun w' => Below W0.heap.size W0 w') (by kernel_rfl) (by kernel_rfl) (fun _ _ _ _ _ h => h) Hbx.out.drew (fun hne => ?_)
          have n0 := fun x : Meets (fun w' => Below W0.heap.size W0 w') => cell_below x.property a0
          have n1 := fun x : Meets (fun w' => Below W0.heap.size W0 w') => cell_below x.property a1
          have n2 := fun x : Meets (fun w' => Below W0.heap.size W0 w') => cell_below x.property a2
          have n3 := fun x : Meets (fun w' => Below W0.heap.size W0 w') => cell_below x.property a3
          have n4 := fun x : Meets (fun w' => Below W0.heap.size W0 w') => cell_below x.property a4
          simp only [pick, pickN, List.filterMap_cons, List.filterMap_nil, List.getElem?_cons_zero, List.getElem?_cons_succ, Option.map_some]
          repeat (change wpQuiet _ _ _ _ (_ :: _) _; go_big_quiet_step (fail))
          refine wpQuiet_nil ?_
          clear n0 n1 n2 n3 n4 hne a0 a1 a2 a3 a4
          rw [Hpv.out]
          refine wpSeqP_step (fun K hK => ?_)
          go_simp
          refine (Hih.out _ _ _ _ _ _ _ (HT.out.below (HB0.out.trans (Hbx.out.drew.mono HB0.out.size))) (Htl.out.below (HB0.out.trans (Hbx.out.drew.mono HB0.out.size))) (Hgx.out.below (Below.refl _ _).drew) Hfit.out).mono ?_
          rintro e w5 ⟨rfl, hb5⟩
          rw [Hbn.out]
          have Hb5 := Lib.hid (Hbx.out.drew.trans (hb5.mono Hbx.out.drew.size))
          refine hK.out _ _ (fun _ => Hb5.out) ?_
          clear hK K hb5
          refine wpSeqP_step (fun K hK => ?_)
          go_simp
          refine hK.out _ _ (fun _ => Hb5.out) ?_
          clear hK K
          refine wpSeqP_step (fun K hK => ?_)
          go_simp
          refine hK.out _ _ (fun _ => Hb5.out) ?_
          clear hK K
          refine wpSeqP_nil ?_
          refine NoPanic.normal ?_
          go_wp2
          go_roundw
          case rel => exact ⟨i + 1, by omega, by rw [Hsu.out], by go_num, Hb5.out⟩
          case measure => simp [intOf]; omega
      · have ii : ¬ (i : Int) < (M : Int) := by omega
        have hie : i = M := by omega
        rw [hie]
        have ii2 : ¬ (M : Int) < (M : Int) := by omega
        go_wp2
        go_ret
        exact ⟨rfl, HB0.out.trans (Hbr.out.mono HB0.out.size)⟩
/-- **The reference's Charge is the least price of all partitions.** -/
theorem Charge_ref (t : Tar) (ht : tarB t = true) : ∀ (rs : List Rd), (∀ r ∈ rs, rideB t r = true) → ∀ (gs : List (List Rd)) (a b c v z : Value) (w : World), TarAt w a b c t → RdsAt w v rs → GsAt w z gs → GsFit t rs.length gs → Calls Try.prog 27 #[.agg #[.int .i64 t.zones, a, b, c, .int .i64 t.window], v, z] w (Gives w (.int .i64 (chargeR t rs gs)))
  | [], _ => fun gs a b c v z w hT hv hz hf => Charge_none t gs a b c v z w hT ht hv hz hf
  | r :: rs, hr => fun gs a b c v z w hT hv hz hf => Charge_step t r rs gs a b c v z w hT ht hv hz (hr r List.mem_cons_self) hf (Charge_ref t ht rs fun x hx => hr x (List.mem_cons_of_mem _ hx))
end Go.Proofs.Ytmbkpfkkohpnkaa
