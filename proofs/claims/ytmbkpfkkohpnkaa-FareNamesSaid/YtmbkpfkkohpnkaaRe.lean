import Derived.Test.YtmbkpfkkohpnkaaRt
import Derived.Test.YtmbkpfkkohpnkaaUb
import Derived.WalkMore
set_option linter.unusedVariables false
set_option linter.unusedSimpArgs false
namespace Go.Proofs.Ytmbkpfkkohpnkaa
open Go Go.Proofs Go.RowKit

set_option maxRecDepth 100000 in
set_option maxHeartbeats 4000000 in
theorem read_any (t : Tar) (a b c v z : Value) (l : List Tp) (cs : List Int) (w : World) (hT : TarAt w a b c t) (hv : TpsAt w v l) (hc : NumsAt .i64 w z cs) (hl : l.length ≤ 1000000) :
    Calls Try.prog 58 #[.agg #[.int .i64 t.zones, a, b, c, .int .i64 t.window], v, z] w (GivesRead t l cs w) := by
  obtain ⟨A0, c0, rfl, hcc, hcm⟩ := hv.form
  obtain ⟨A1, c1, rfl, _, _⟩ := hc.form
  obtain ⟨i0, hi0, hz0, hz1, hz2⟩ := info_parts info_rds
  have mk : ∀ (t : TypeId) (w : World), (Instr.makeMap t none).run Try.prog w = .ok (.map (some w.heap.size)) (w.alloc (.map #[] 0)) := fun t w => run_makeMap t w
  have HT := Lib.hid hT
  have Hv := Lib.hid hv
  have Hc := Lib.hid hc
  clear hT hv hc
  generalize hcl : cs.length = CL at *
  have HCL := Lib.hid hcl
  clear hcl
  go_enter Try.func58, Try.ntmps58
  go_upto_region 1 with (fail)
  try go_step3
  refine wp_name (fun W => Below w.heap.size w W ∧ w.heap.size + 1 + 1 < W.heap.size ∧ W.heap[w.heap.size]? = some (.cells #[.int .i64 t.zones, a, b, c, .int .i64 t.window] 32 (0, 0)) ∧ W.heap[w.heap.size + 1]? = some (.cells #[.slice A1 CL c1] 22 (0, 0)) ∧ W.heap[w.heap.size + 1 + 1]? = some (.cells (toldC nilU (.map none)).toArray 109 (0, 0))) ?_ (fun W hW => ?_)
  · refine ⟨(((Below.refl _ _).alloc (Nat.le_refl _) _).alloc (by simp) _).alloc (by simp; omega) _, by simp, (Below.heap_alloc _ _ _ (by simp; omega)).trans ((Below.heap_alloc _ _ _ (by simp)).trans (heap_alloc_new w _)), (Below.heap_alloc _ _ _ (by simp)).trans (heap_alloc2_new w _ _), heap_alloc3_new w _ _ _⟩
  obtain ⟨hb, hsz, hA, hB, hO⟩ := hW
  have hOB0 : w.heap.size ≤ w.heap.size + 1 + 1 := by omega
  have hOB1 : w.heap.size + 1 ≠ w.heap.size + 1 + 1 := by omega
  have hOB2 : w.heap.size ≠ w.heap.size + 1 + 1 := by omega
  generalize w.heap.size + 1 + 1 = OB at *
  generalize w.heap.size + 1 = CB at *
  have qa := box_cells hA
  have a0 := qa 0
  have a1 := qa 1
  have a2 := qa 2
  have a3 := qa 3
  have a4 := qa 4
  simp only [List.getElem?_toArray, List.getElem?_cons_zero, List.getElem?_cons_succ] at a0 a1 a2 a3 a4
  have HA := Lib.hid hA
  have HB := Lib.hid hB
  have HO := Lib.hid hO
  clear qa hA hB hO
  go_wp2_with fail
  refine (CheckTariff_any t a b c W (HT.out.below hb)).mono ?_
  rintro e w1 ⟨rfl, hb1⟩
  clear a0 a1 a2 a3 a4
  have hw1 := hb.trans (hb1.mono hb.size)
  have hA1 := Lib.hid ((hb1.block _ (Array.getElem?_eq_some_iff.1 HA.out).1).trans HA.out)
  have hB1 := Lib.hid ((hb1.block _ (Array.getElem?_eq_some_iff.1 HB.out).1).trans HB.out)
  have hO1 := Lib.hid ((hb1.block _ (Array.getElem?_eq_some_iff.1 HO.out).1).trans HO.out)
  have hs1 : OB < w1.heap.size := Nat.lt_of_lt_of_le hsz hb1.size
  have Hw1 := Lib.hid hw1
  clear HA HB HO hb1 hb hw1
  cases ht : tarB t with
  | false =>
    have hf : faultT t = 1 := by unfold faultT; rw [if_neg (by simp [ht])]
    have hd : tapsF t l cs = 1 := by unfold tapsF; rw [if_neg (by simp [ht])]
    have Hd := Lib.hid hd
    rw [hf]
    clear hf hd ht
    have zq := box_cells hO1.out
    have zq0 := zq 0
    have zq1 := zq 1
    have zq2 := zq 2
    have zq3 := zq 3
    have zq4 := zq 4
    have zq5 := zq 5
    have zq6 := zq 6
    have zq7 := zq 7
    have zq8 := zq 8
    have zq9 := zq 9
    have zq10 := zq 10
    have zf0 := box_frozen hO1.out 0
    have zf1 := box_frozen hO1.out 1
    have zf2 := box_frozen hO1.out 2
    have zf3 := box_frozen hO1.out 3
    have zf4 := box_frozen hO1.out 4
    have zf5 := box_frozen hO1.out 5
    have zf6 := box_frozen hO1.out 6
    have zf7 := box_frozen hO1.out 7
    have zf8 := box_frozen hO1.out 8
    have zf9 := box_frozen hO1.out 9
    have zf10 := box_frozen hO1.out 10
    simp only [toldC, nilU, List.getElem?_toArray, List.getElem?_cons_zero, List.getElem?_cons_succ] at zq0 zq1 zq2 zq3 zq4 zq5 zq6 zq7 zq8 zq9 zq10
    clear zq
    go_wp2
    obtain ⟨z, zg⟩ := told_put (vs := nilU) (q := .map none) hO1.out
    have z0 := box_cells z 0
    have z1 := box_cells z 1
    have z2 := box_cells z 2
    have z3 := box_cells z 3
    have z4 := box_cells z 4
    have z5 := box_cells z 5
    have z6 := box_cells z 6
    have z7 := box_cells z 7
    have z8 := box_cells z 8
    have z9 := box_cells z 9
    have z10 := box_cells z 10
    have Z := Lib.hid z
    have Zg := Lib.hid zg
    clear z zg
    simp only [toldC, nilU, List.getElem?_toArray, List.getElem?_cons_zero, List.getElem?_cons_succ] at z0 z1 z2 z3 z4 z5 z6 z7 z8 z9 z10
    refine bodyPost_ret (v := .tuple #[.agg (toldC (nilU) (.map none)).toArray, .int .i64 1]) (by simp [results, Try.results58, go_sem, z0, z1, z2, z3, z4, z5, z6, z7, z8, z9, z10, toldC, nilU]) rfl ?_
    have hbl := below_by Hw1.out hOB0 Zg.out
    exact ⟨hbl, fun _ => by rw [Hd.out], fun h => absurd (Hd.out.symm.trans h) (by decide)⟩
  | true =>
    have hf : faultT t = 0 := by unfold faultT; rw [if_pos ht]
    rw [hf]
    have Ht := Lib.hid ht
    clear hf ht
    by_cases h40 : 40 < l.length
    · have i40 : (40 : Int) < (l.length : Int) := by omega
      have hd : tapsF t l cs = 3 := by unfold tapsF; rw [if_pos Ht.out, if_pos h40]
      have Hd := Lib.hid hd
      clear h40 hd
      have zq := box_cells hO1.out
      have zq0 := zq 0
      have zq1 := zq 1
      have zq2 := zq 2
      have zq3 := zq 3
      have zq4 := zq 4
      have zq5 := zq 5
      have zq6 := zq 6
      have zq7 := zq 7
      have zq8 := zq 8
      have zq9 := zq 9
      have zq10 := zq 10
      have zf0 := box_frozen hO1.out 0
      have zf1 := box_frozen hO1.out 1
      have zf2 := box_frozen hO1.out 2
      have zf3 := box_frozen hO1.out 3
      have zf4 := box_frozen hO1.out 4
      have zf5 := box_frozen hO1.out 5
      have zf6 := box_frozen hO1.out 6
      have zf7 := box_frozen hO1.out 7
      have zf8 := box_frozen hO1.out 8
      have zf9 := box_frozen hO1.out 9
      have zf10 := box_frozen hO1.out 10
      simp only [toldC, nilU, List.getElem?_toArray, List.getElem?_cons_zero, List.getElem?_cons_succ] at zq0 zq1 zq2 zq3 zq4 zq5 zq6 zq7 zq8 zq9 zq10
      clear zq
      go_wp2
      obtain ⟨z, zg⟩ := told_put (vs := nilU) (q := .map none) hO1.out
      have z0 := box_cells z 0
      have z1 := box_cells z 1
      have z2 := box_cells z 2
      have z3 := box_cells z 3
      have z4 := box_cells z 4
      have z5 := box_cells z 5
      have z6 := box_cells z 6
      have z7 := box_cells z 7
      have z8 := box_cells z 8
      have z9 := box_cells z 9
      have z10 := box_cells z 10
      have Z := Lib.hid z
      have Zg := Lib.hid zg
      clear z zg
      simp only [toldC, nilU, List.getElem?_toArray, List.getElem?_cons_zero, List.getElem?_cons_succ] at z0 z1 z2 z3 z4 z5 z6 z7 z8 z9 z10
      refine bodyPost_ret (v := .tuple #[.agg (toldC (nilU) (.map none)).toArray, .int .i64 3]) (by simp [results, Try.results58, go_sem, z0, z1, z2, z3, z4, z5, z6, z7, z8, z9, z10, toldC, nilU]) rfl ?_
      have hbl := below_by Hw1.out hOB0 Zg.out
      exact ⟨hbl, fun _ => by rw [Hd.out], fun h => absurd (Hd.out.symm.trans h) (by decide)⟩
    have i40 : ¬ (40 : Int) < (l.length : Int) := by omega
    have H40 := Lib.hid h40
    clear h40
    have qb := box_cells hB1.out 0
    simp only [List.getElem?_toArray, List.getElem?_cons_zero, List.getElem?_cons_succ] at qb
    by_cases h4 : CL = 4
    rotate_left
    · have i4 : ((CL : Int) != 4) = true := by simp; omega
      have hd : tapsF t l cs = 1 := by unfold tapsF; rw [if_pos Ht.out, if_neg H40.out, if_neg (fun h => h4 (HCL.out ▸ (countsB_iff.1 h).1))]
      have Hd := Lib.hid hd
      clear h4 hd
      have zq := box_cells hO1.out
      have zq0 := zq 0
      have zq1 := zq 1
      have zq2 := zq 2
      have zq3 := zq 3
      have zq4 := zq 4
      have zq5 := zq 5
      have zq6 := zq 6
      have zq7 := zq 7
      have zq8 := zq 8
      have zq9 := zq 9
      have zq10 := zq 10
      have zf0 := box_frozen hO1.out 0
      have zf1 := box_frozen hO1.out 1
      have zf2 := box_frozen hO1.out 2
      have zf3 := box_frozen hO1.out 3
      have zf4 := box_frozen hO1.out 4
      have zf5 := box_frozen hO1.out 5
      have zf6 := box_frozen hO1.out 6
      have zf7 := box_frozen hO1.out 7
      have zf8 := box_frozen hO1.out 8
      have zf9 := box_frozen hO1.out 9
      have zf10 := box_frozen hO1.out 10
      simp only [toldC, nilU, List.getElem?_toArray, List.getElem?_cons_zero, List.getElem?_cons_succ] at zq0 zq1 zq2 zq3 zq4 zq5 zq6 zq7 zq8 zq9 zq10
      clear zq
      go_wp2
      obtain ⟨z, zg⟩ := told_put (vs := nilU) (q := .map none) hO1.out
      have z0 := box_cells z 0
      have z1 := box_cells z 1
      have z2 := box_cells z 2
      have z3 := box_cells z 3
      have z4 := box_cells z 4
      have z5 := box_cells z 5
      have z6 := box_cells z 6
      have z7 := box_cells z 7
      have z8 := box_cells z 8
      have z9 := box_cells z 9
      have z10 := box_cells z 10
      have Z := Lib.hid z
      have Zg := Lib.hid zg
      clear z zg
      simp only [toldC, nilU, List.getElem?_toArray, List.getElem?_cons_zero, List.getElem?_cons_succ] at z0 z1 z2 z3 z4 z5 z6 z7 z8 z9 z10
      refine bodyPost_ret (v := .tuple #[.agg (toldC (nilU) (.map none)).toArray, .int .i64 1]) (by simp [results, Try.results58, go_sem, z0, z1, z2, z3, z4, z5, z6, z7, z8, z9, z10, toldC, nilU]) rfl ?_
      have hbl := below_by Hw1.out hOB0 Zg.out
      exact ⟨hbl, fun _ => by rw [Hd.out], fun h => absurd (Hd.out.symm.trans h) (by decide)⟩
    have i4 : ((CL : Int) != 4) = false := by simp; omega
    have H4 := Lib.hid h4
    clear h4
    have hBel := Hw1.out
    go_wp2_with fail
    refine (all_ints _ _ _ (fun x => inB x 0 50) _ cs w1 (Hc.out.below hBel) (fun k x w' _ _ => read1_val x w')).mono ?_
    rintro e w2 ⟨rfl, hb2⟩
    clear qb hBel
    have hO2 := Lib.hid ((hb2.block _ (Array.getElem?_eq_some_iff.1 hO1.out).1).trans hO1.out)
    have hA2 := Lib.hid ((hb2.block _ (Array.getElem?_eq_some_iff.1 hA1.out).1).trans hA1.out)
    have hB2 := Lib.hid ((hb2.block _ (Array.getElem?_eq_some_iff.1 hB1.out).1).trans hB1.out)
    have Hw2 := Lib.hid (Hw1.out.trans (hb2.mono Hw1.out.size))
    have hs2 : OB < w2.heap.size := Nat.lt_of_lt_of_le hs1 hb2.size
    clear hb2 hO1 hA1 hB1 Hw1 hs1
    cases hca : (cs.all fun x => inB x 0 50) with
    | false =>
      have hd : tapsF t l cs = 1 := by
        unfold tapsF
        rw [if_pos Ht.out, if_neg H40.out, if_neg]
        unfold countsB
        rw [hca, Bool.and_false]
        decide
      have Hd := Lib.hid hd
      clear hca hd
      have zq := box_cells hO2.out
      have zq0 := zq 0
      have zq1 := zq 1
      have zq2 := zq 2
      have zq3 := zq 3
      have zq4 := zq 4
      have zq5 := zq 5
      have zq6 := zq 6
      have zq7 := zq 7
      have zq8 := zq 8
      have zq9 := zq 9
      have zq10 := zq 10
      have zf0 := box_frozen hO2.out 0
      have zf1 := box_frozen hO2.out 1
      have zf2 := box_frozen hO2.out 2
      have zf3 := box_frozen hO2.out 3
      have zf4 := box_frozen hO2.out 4
      have zf5 := box_frozen hO2.out 5
      have zf6 := box_frozen hO2.out 6
      have zf7 := box_frozen hO2.out 7
      have zf8 := box_frozen hO2.out 8
      have zf9 := box_frozen hO2.out 9
      have zf10 := box_frozen hO2.out 10
      simp only [toldC, nilU, List.getElem?_toArray, List.getElem?_cons_zero, List.getElem?_cons_succ] at zq0 zq1 zq2 zq3 zq4 zq5 zq6 zq7 zq8 zq9 zq10
      clear zq
      go_wp2
      obtain ⟨z, zg⟩ := told_put (vs := nilU) (q := .map none) hO2.out
      have z0 := box_cells z 0
      have z1 := box_cells z 1
      have z2 := box_cells z 2
      have z3 := box_cells z 3
      have z4 := box_cells z 4
      have z5 := box_cells z 5
      have z6 := box_cells z 6
      have z7 := box_cells z 7
      have z8 := box_cells z 8
      have z9 := box_cells z 9
      have z10 := box_cells z 10
      have Z := Lib.hid z
      have Zg := Lib.hid zg
      clear z zg
      simp only [toldC, nilU, List.getElem?_toArray, List.getElem?_cons_zero, List.getElem?_cons_succ] at z0 z1 z2 z3 z4 z5 z6 z7 z8 z9 z10
      refine bodyPost_ret (v := .tuple #[.agg (toldC (nilU) (.map none)).toArray, .int .i64 1]) (by simp [results, Try.results58, go_sem, z0, z1, z2, z3, z4, z5, z6, z7, z8, z9, z10, toldC, nilU]) rfl ?_
      have hbl := below_by Hw2.out hOB0 Zg.out
      exact ⟨hbl, fun _ => by rw [Hd.out], fun h => absurd (Hd.out.symm.trans h) (by decide)⟩
    | true =>
      have hcn : ∀ y ∈ cs, 0 ≤ y ∧ y ≤ 50 := fun y hy => inB_iff.1 (List.all_eq_true.1 hca y hy)
      have hlen : cs.length = 4 := HCL.out.trans H4.out
      have hcb : countsB cs = true := countsB_iff.2 ⟨hlen, hcn⟩
      have Hcn := Lib.hid hcn
      have Hlen := Lib.hid hlen
      have Hcb := Lib.hid hcb
      clear hca hcn hlen hcb
      go_wp2_with fail
      refine (all_tps _ _ _ (tapB t cs) _ l w2 (Hv.out.below Hw2.out) (fun k x w' _ hb' => read2_val t a b c _ x cs w.heap.size CB w' ((hb'.block _ (Array.getElem?_eq_some_iff.1 hA2.out).1).trans hA2.out) ((hb'.block _ (Array.getElem?_eq_some_iff.1 hB2.out).1).trans hB2.out) ((Hc.out.below Hw2.out).below hb') Hlen.out Hcn.out)).mono ?_
      rintro e w3 ⟨rfl, hb3⟩
      have hO3 := Lib.hid ((hb3.block _ (Array.getElem?_eq_some_iff.1 hO2.out).1).trans hO2.out)
      have Hw3 := Lib.hid (Hw2.out.trans (hb3.mono Hw2.out.size))
      have hs3 : OB < w3.heap.size := Nat.lt_of_lt_of_le hs2 hb3.size
      clear hb3 hO2 hA2 hB2 Hw2 hs2
      cases hta : l.all (tapB t cs) with
      | false =>
        have hd : tapsF t l cs = 2 := by
          unfold tapsF
          rw [if_pos Ht.out, if_neg H40.out, if_pos Hcb.out, if_neg (by simp [hta])]
        have Hd := Lib.hid hd
        clear hta hd
        have zq := box_cells hO3.out
        have zq0 := zq 0
        have zq1 := zq 1
        have zq2 := zq 2
        have zq3 := zq 3
        have zq4 := zq 4
        have zq5 := zq 5
        have zq6 := zq 6
        have zq7 := zq 7
        have zq8 := zq 8
        have zq9 := zq 9
        have zq10 := zq 10
        have zf0 := box_frozen hO3.out 0
        have zf1 := box_frozen hO3.out 1
        have zf2 := box_frozen hO3.out 2
        have zf3 := box_frozen hO3.out 3
        have zf4 := box_frozen hO3.out 4
        have zf5 := box_frozen hO3.out 5
        have zf6 := box_frozen hO3.out 6
        have zf7 := box_frozen hO3.out 7
        have zf8 := box_frozen hO3.out 8
        have zf9 := box_frozen hO3.out 9
        have zf10 := box_frozen hO3.out 10
        simp only [toldC, nilU, List.getElem?_toArray, List.getElem?_cons_zero, List.getElem?_cons_succ] at zq0 zq1 zq2 zq3 zq4 zq5 zq6 zq7 zq8 zq9 zq10
        clear zq
        go_wp2
        obtain ⟨z, zg⟩ := told_put (vs := nilU) (q := .map none) hO3.out
        have z0 := box_cells z 0
        have z1 := box_cells z 1
        have z2 := box_cells z 2
        have z3 := box_cells z 3
        have z4 := box_cells z 4
        have z5 := box_cells z 5
        have z6 := box_cells z 6
        have z7 := box_cells z 7
        have z8 := box_cells z 8
        have z9 := box_cells z 9
        have z10 := box_cells z 10
        have Z := Lib.hid z
        have Zg := Lib.hid zg
        clear z zg
        simp only [toldC, nilU, List.getElem?_toArray, List.getElem?_cons_zero, List.getElem?_cons_succ] at z0 z1 z2 z3 z4 z5 z6 z7 z8 z9 z10
        refine bodyPost_ret (v := .tuple #[.agg (toldC (nilU) (.map none)).toArray, .int .i64 2]) (by simp [results, Try.results58, go_sem, z0, z1, z2, z3, z4, z5, z6, z7, z8, z9, z10, toldC, nilU]) rfl ?_
        have hbl := below_by Hw3.out hOB0 Zg.out
        exact ⟨hbl, fun _ => by rw [Hd.out], fun h => absurd (Hd.out.symm.trans h) (by decide)⟩
      | true =>
        have htap : ∀ x ∈ l, tapB t cs x = true := List.all_eq_true.1 hta
        have Hta := Lib.hid hta
        have Htap := Lib.hid htap
        clear hta htap
        have q10 := told_map hO3.out
        have f10 := box_frozen hO3.out 10
        go_upto_region 14 with (fail)
        refine wp_name (fun V => Below w.heap.size w V ∧ OB < V.heap.size ∧ V.heap[OB]? = some (.cells (toldC nilU (.map (some w3.heap.size))).toArray 109 (0, 0)) ∧ MapN 139 V w3.heap.size 0 (fun _ => none)) ?_ (fun V hV => ?_)
        · have e1 := told_setM hO3.out (.map (some w3.heap.size))
          have hg := grown_set (World.grownBy.refl w3 (some OB)) 10 (.map (some w3.heap.size))
          have e2 : (w3.setCell ⟨OB, 10, none⟩ (.map (some w3.heap.size))).heap.size = w3.heap.size := by simp
          have e3 := mapN_made 139 (w3.setCell ⟨OB, 10, none⟩ (.map (some w3.heap.size)))
          rw [e2] at e3
          have hbs := below_by Hw3.out hOB0 hg
          exact ⟨hbs.alloc hbs.size _, by simp; omega, (Below.heap_alloc _ _ _ (by rw [e2]; exact hs3)).trans e1, e3⟩
        obtain ⟨hbV, hsV, hOV, hMV⟩ := hV
        have hK : OB ≠ w3.heap.size := by omega
        have hK0 : w.heap.size ≤ w3.heap.size := Hw3.out.size
        generalize w3.heap.size = K at *
        have HbV := Lib.hid hbV
        have HOV := Lib.hid hOV
        have HMV := Lib.hid hMV
        clear hbV hOV hMV hO3 Hw3 hs3 q10 f10
        go_wp2
        go_step3
        go_wp2
        go_loopw [11, 51] (fun f s wr => ∃ (k n : Nat) (F : Value → Option Value) (us : Nat → Value), k ≤ l.length ∧ f = .bool false ∧ s = .int .i64 k ∧ Below w.heap.size w wr ∧ OB < wr.heap.size ∧ wr.heap[OB]? = some (.cells (toldC us (.map (some K))).toArray 109 (0, 0)) ∧
          MapN 139 wr K n F ∧ n ≤ k ∧ (∀ y ∈ l.take k, F (numV y.machine y.number) = some (tpV y)) ∧ (∀ m u, F m = some u → ∃ y ∈ l.take k, m = numV y.machine y.number ∧ u = tpV y) ∧ Ten wr w.heap.size us (fun c => ridesC (l.take k) c)) (fun f s wr => l.length - (intOf s).toNat)
        case atStart => exact ⟨0, 0, fun _ => none, nilU, by omega, rfl, rfl, HbV.out, hsV, HOV.out, HMV.out, Nat.le_refl _, fun y hy => by simp at hy, fun m u h => (by cases h), Ten.nil _ _⟩
        case round =>
          obtain ⟨k, n, F, us, hk, rfl, rfl, hbr, hsr, hOr, hMr, hnk, hfw, hbk, hten⟩ := hrel
          have Hbr := Lib.hid hbr
          have HOr := Lib.hid hOr
          have HMr := Lib.hid hMr
          have Hfw := Lib.hid hfw
          have Hbk := Lib.hid hbk
          have Hten := Lib.hid hten
          clear hbr hOr hMr hfw hbk hten HbV HOV HMV
          by_cases hlt : k < l.length
          · have hvr := Hv.out.below Hbr.out
            obtain ⟨bb, oo, x, rfl, hx, d0, d1, d2, d3, d4, d5, d6, _⟩ := hvr.at_ (k := k) hlt
            have hxl := List.mem_of_getElem? hx
            have htx := Htap.out x hxl
            have Hx := Lib.hid hx
            unfold tapB at htx
            simp only [Bool.and_eq_true] at htx
            obtain ⟨t1, t2, t3, _⟩ := htx
            have t1 := inB_iff.1 t1
            have t2 := inB_iff.1 t2
            have t3 := inB_iff.1 t3
            have hcu : cntAt cs x.machine ≤ 50 := by
              unfold cntAt
              cases hq : cs[x.machine.toNat]? with
              | none => decide
              | some y => exact (Hcn.out y (List.mem_of_getElem? hq)).2
            obtain ⟨ky, hky⟩ := num_key (m := x.machine) (n := x.number) t1.1 t1.2 t3.1 (by omega)
            have hxc : x.card = ((x.card.toNat : Nat) : Int) := by omega
            have hcc2 : x.card.toNat < 10 := by omega
            have Hky := Lib.hid hky
            have Hxc := Lib.hid hxc
            have hlk : (k : Int) < (l.length : Int) := by omega
            clear hvr hx hky hxc hcu t1 t2 t3 hxl
            go_upto_region 18 with (fail)
            refine wp_name (fun V => Below wr.heap.size wr V ∧ wr.heap.size + 1 < V.heap.size ∧ V.heap[wr.heap.size]? = some (.cells #[.int .i64 x.machine, .int .i64 x.number, .int .i64 x.card, .int .i64 x.ride.day, .int .i64 x.ride.minute, .int .i64 x.ride.low, .int .i64 x.ride.high] 91 (0, 0)) ∧ V.heap[wr.heap.size + 1]? = some (.cells #[.int .i64 x.machine, .int .i64 x.number] 139 (0, 0))) ⟨two_below wr _ _, by simp, (Below.heap_alloc _ _ _ (by simp)).trans (heap_alloc_new wr _), heap_alloc2_new wr _ _⟩ (fun V hV => ?_)
            obtain ⟨hbV, hsV2, hXV, hNV⟩ := hV
            have hOV := Lib.hid ((hbV.block _ hsr).trans HOr.out)
            have hMV := Lib.hid (HMr.out.below hbV)
            have XN : wr.heap.size ≠ wr.heap.size + 1 := by omega
            have XO : OB ≠ wr.heap.size := by omega
            have NO : OB ≠ wr.heap.size + 1 := by omega
            have XK : K ≠ wr.heap.size := by have := HMr.out.lt; omega
            have NK : K ≠ wr.heap.size + 1 := by have := HMr.out.lt; omega
            have hXs : wr.heap.size < V.heap.size := by omega
            have hw0 : w.heap.size ≤ wr.heap.size := Hbr.out.size
            obtain ⟨XB, hXB⟩ : ∃ XB, wr.heap.size = XB := ⟨_, rfl⟩
            obtain ⟨NB, hNB⟩ : ∃ NB, XB + 1 = NB := ⟨_, rfl⟩
            rw [hXB] at hsV2 hXV hNV XN XO NO XK NK hXs hw0
            rw [hNB] at hsV2 hNV XN NO NK
            rw [hXB, hNB]
            have HbV := Lib.hid hbV
            have HXV := Lib.hid hXV
            have HNV := Lib.hid hNV
            clear hbV hXV hNV d0 d1 d2 d3 d4 d5 d6
            have qx := box_cells HXV.out
            have x0 := qx 0
            have x1 := qx 1
            have x2 := qx 2
            have x3 := qx 3
            have x4 := qx 4
            have x5 := qx 5
            have x6 := qx 6
            have qn := box_cells HNV.out
            have n0 := qn 0
            have n1 := qn 1
            simp only [List.getElem?_toArray, List.getElem?_cons_zero, List.getElem?_cons_succ] at x0 x1 x2 x3 x4 x5 x6 n0 n1
            have m0 := told_map hOV.out
            have qe := tap_neq
            have qg := tap_guardN
            clear qx qn
            have hstep : ∀ (W : World) (u : Value) (is : Bool), True := fun _ _ _ => trivial
            clear hstep
            cases hF : F (numV x.machine x.number) with
            | none =>
              have HF := Lib.hid hF
              clear hF
              go_upto_region 19 with (at_lookup; refine wpList_look_none num_law rfl (.tmp 62) (.tmp 63) rfl Try.underlying107 (tap_zero _) (numV x.machine x.number) rfl rfl hMV.out Hky.out HF.out ?_)
              refine wp_name (fun V1 => Below V.heap.size V V1 ∧ V1.heap[V.heap.size]? = some (.cells #[.int .i64 0, .int .i64 0, .int .i64 0, .int .i64 0, .int .i64 0, .int .i64 0, .int .i64 0] 91 (0, 0))) ⟨(Below.refl _ _).alloc (Nat.le_refl _) _, heap_alloc_new V _⟩ (fun V1 hV1 => ?_)
              obtain ⟨hb1, hY1⟩ := hV1
              clear x0 x1 x2 x3 x4 x5 x6 n0 n1 m0
              have HO1 := Lib.hid ((hb1.block _ (Array.getElem?_eq_some_iff.1 hOV.out).1).trans hOV.out)
              have HX1 := Lib.hid ((hb1.block _ (Array.getElem?_eq_some_iff.1 HXV.out).1).trans HXV.out)
              have HN1 := Lib.hid ((hb1.block _ (Array.getElem?_eq_some_iff.1 HNV.out).1).trans HNV.out)
              have HM1 := Lib.hid (hMV.out.below hb1)
              have Hb1 := Lib.hid (HbV.out.trans (hb1.mono HbV.out.size))
              have qx := box_cells HX1.out
              have x0 := qx 0
              have x1 := qx 1
              have x2 := qx 2
              have x3 := qx 3
              have x4 := qx 4
              have x5 := qx 5
              have x6 := qx 6
              have qn := box_cells HN1.out
              have n0 := qn 0
              have n1 := qn 1
              have qy := box_cells hY1
              have y0 := qy 0
              have y1 := qy 1
              have y2 := qy 2
              have y3 := qy 3
              have y4 := qy 4
              have y5 := qy 5
              have y6 := qy 6
              simp only [List.getElem?_toArray, List.getElem?_cons_zero, List.getElem?_cons_succ] at x0 x1 x2 x3 x4 x5 x6 n0 n1 y0 y1 y2 y3 y4 y5 y6
              have m0 := told_map HO1.out
              clear qx qn qy hY1 hb1 hOV HXV HNV hMV HbV
              have es : True := trivial
              go_upto_region 22 with (at_mapUpdate; refine wpList_upd_v num_law rfl (.tmp 74) (.tmp 75) (.tmp 76) rfl Try.underlying107 (numV x.machine x.number) (tpV x) rfl rfl rfl HM1.out (by simp [maxLen]; omega) Hky.out ?_; intro w5 hm5 hg5)
              clear x0 x1 x2 x3 x4 x5 x6 n0 n1 y0 y1 y2 y3 y4 y5 y6 m0 es
              have nc : ∀ cur U fr, V1.heap[K]? ≠ some (.cells cur U fr) := fun cur U fr e => HM1.out.notCells e rfl
              have HX5 := Lib.hid ((hg5.block _ (Array.getElem?_eq_some_iff.1 HX1.out).1 (fun e => by injection e with e; exact XK e.symm)).trans HX1.out)
              have HO5 := Lib.hid ((hg5.block _ (Array.getElem?_eq_some_iff.1 HO1.out).1 (fun e => by injection e with e; exact hK e)).trans HO1.out)
              have HM5 := Lib.hid hm5
              have HT5 := Lib.hid ((Hten.out.below Hb1.out).kept hg5 (fun cu fr => nc cu _ fr))
              have hbw : Below w.heap.size w V1 := Hbr.out.trans (Hb1.out.mono Hbr.out.size)
              have Hb5 := Lib.hid (below_by hbw hK0 hg5)
              have hs5 : OB < w5.heap.size := (Array.getElem?_eq_some_iff.1 HO5.out).1
              clear hm5 hg5 nc hbw HX1 HO1 HN1 HM1 Hb1
              obtain ⟨cc, hcceq⟩ : ∃ cc, x.card.toNat = cc := ⟨_, rfl⟩
              have hxe : x.card = (cc : Int) := by rw [← hcceq]; exact Hxc.out
              have Hxe := Lib.hid hxe
              rw [hcceq] at hcc2
              clear hcceq hxe
              obtain ⟨S, hS⟩ : ∃ S : World → Prop, ∀ W, S W ↔ (W.heap[XB]? = some (.cells #[.int .i64 x.machine, .int .i64 x.number, .int .i64 (cc : Int), .int .i64 x.ride.day, .int .i64 x.ride.minute, .int .i64 x.ride.low, .int .i64 x.ride.high] 91 (0, 0)) ∧ W.heap[OB]? = some (.cells (toldC us (.map (some K))).toArray 109 (0, 0))) := ⟨_, fun _ => Iff.rfl⟩
              have hSi : ∀ W : World, W.heap[XB]? = some (.cells #[.int .i64 x.machine, .int .i64 x.number, .int .i64 x.card, .int .i64 x.ride.day, .int .i64 x.ride.minute, .int .i64 x.ride.low, .int .i64 x.ride.high] 91 (0, 0)) → W.heap[OB]? = some (.cells (toldC us (.map (some K))).toArray 109 (0, 0)) → S W := fun W h1 h2 => (hS W).2 ⟨by rw [Hxe.out] at h1; exact h1, h2⟩
              have hd : S w5.drew := hSi _ HX5.out HO5.out
              have hSp := fun y : Meets S => (hS y.val).1 y.property
              have HSi := Lib.hid hSi
              clear hS hSi
              try go_simp
              refine wp_region_noPanic ?_
              have how := (HT5.out.below ((Below.refl _ _).drew)).own cc hcc2
              have hat := (HT5.out.below (((Below.refl _ _).drew).alloc (Nat.le_refl _) (.cells (rdC x.ride).toArray 70)))
              have hll : (ridesC (l.take k) (cc : Int)).length ≤ 1000000 := by
                have := ridesC_len (l.take k) cc
                have := List.length_take_le k l
                omega
              have Hhow := Lib.hid how
              have Hhat := Lib.hid hat
              clear hat
              obtain ⟨rl, hrl⟩ : ∃ rl, ridesC (l.take k) (cc : Int) = rl := ⟨_, rfl⟩
              rw [hrl] at how hll
              have Hrl := Lib.hid hrl
              clear hrl
              have key : ∀ (A9 : Option Addr) (k9 : Nat) (wd : World), wd.ownsRow w.heap.size 70 4 (.slice A9 (rl.length + 1) k9) (rl.length + 1) (rl.flatMap rdC ++ rdC x.ride) → (w5.drew.alloc (.cells (rdC x.ride).toArray 70)).grownBy wd (us cc).ownBlock →
                  ((Value.slice A9 (rl.length + 1) k9).ownBlock = (us cc).ownBlock ∨ (Value.slice A9 (rl.length + 1) k9).ownBlock = some (w5.drew.alloc (.cells (rdC x.ride).toArray 70)).heap.size) →
                  ∃ (n' : Nat) (F' : Value → Option Value) (us' : Nat → Value), Below w.heap.size w (wd.setCell ⟨OB, cc, none⟩ (.slice A9 (rl.length + 1) k9)) ∧ OB < (wd.setCell ⟨OB, cc, none⟩ (.slice A9 (rl.length + 1) k9)).heap.size ∧ (wd.setCell ⟨OB, cc, none⟩ (.slice A9 (rl.length + 1) k9)).heap[OB]? = some (.cells (toldC us' (.map (some K))).toArray 109 (0, 0)) ∧
                    MapN 139 (wd.setCell ⟨OB, cc, none⟩ (.slice A9 (rl.length + 1) k9)) K n' F' ∧ n' ≤ k + 1 ∧ (∀ y ∈ l.take (k + 1), F' (numV y.machine y.number) = some (tpV y)) ∧ (∀ m u, F' m = some u → ∃ y ∈ l.take (k + 1), m = numV y.machine y.number ∧ u = tpV y) ∧ Ten (wd.setCell ⟨OB, cc, none⟩ (.slice A9 (rl.length + 1) k9)) w.heap.size us' (fun c => ridesC (l.take (k + 1)) c) := by
                intro A9 k9 wd hown9 hg9 hat9
                have HOd := own_grow (w := w5.drew) how HO5.out (by decide) hg9
                have hOz := told_set HOd hcc2 (.slice A9 (rl.length + 1) k9)
                have hgz := grown_set (World.grownBy.refl wd (some OB)) cc (.slice A9 (rl.length + 1) k9)
                have htk : l.take (k + 1) = l.take k ++ [x] := by rw [List.take_add_one, Hx.out]; rfl
                have hbd : Below w.heap.size w wd := by
                  have h5 : Below w.heap.size w (w5.drew.alloc (.cells (rdC x.ride).toArray 70)) := (Hb5.out.drew).alloc Hb5.out.size _
                  exact below_grown h5 hg9 h5.size (how.alloc _) (Nat.le_refl _)
                have hKo : some K ≠ (us cc).ownBlock := fun e => by
                  obtain ⟨_, _, cur, hcur⟩ := own_lt how e.symm
                  exact HM5.out.notCells hcur rfl
                have hMd : MapN 139 wd K (n + 1) (updV F (numV x.machine x.number) (tpV x)) := (HM5.out.below (((Below.refl _ _).drew).alloc (Nat.le_refl _) _)).kept (hg9.block _ (Nat.lt_of_lt_of_le HM5.out.lt (((Below.refl _ w5).drew).alloc (Nat.le_refl _) _).size) hKo)
                have hTd := Hhat.out.grow hcc2 (l1 := rl ++ [x.ride]) (by simp) (by simp) hown9 hg9 hat9
                refine ⟨n + 1, updV F (numV x.machine x.number) (tpV x), updU us cc (.slice A9 (rl.length + 1) k9), below_by hbd hOB0 hgz, Nat.lt_of_lt_of_le (Array.getElem?_eq_some_iff.1 HOd).1 hgz.size, hOz, hMd.kept (hgz.block _ hMd.lt (fun e => by injection e with e; exact hK e.symm)), by omega, fun y hy => ?_, fun m u h => ?_, ?_⟩
                · rw [htk] at hy
                  by_cases e : numV y.machine y.number = numV x.machine x.number
                  · rw [e, updV_same]
                    rcases List.mem_append.1 hy with h | h
                    · have := Hfw.out y h
                      rw [e, HF.out] at this
                      cases this
                    · rw [List.mem_singleton.1 h]
                  · rw [updV_other e]
                    rcases List.mem_append.1 hy with h | h
                    · exact Hfw.out y h
                    · rw [List.mem_singleton.1 h] at e; exact absurd rfl e
                · rw [htk]
                  by_cases e : m = numV x.machine x.number
                  · subst e
                    rw [updV_same] at h
                    cases h
                    exact ⟨x, by simp, rfl, rfl⟩
                  · rw [updV_other e] at h
                    obtain ⟨y, hy, h1, h2⟩ := Hbk.out m u h
                    exact ⟨y, by simp [hy], h1, h2⟩
                · refine (hTd.kept hgz (fun cu fr e => by rw [HOd] at e; cases e)).cong (fun c' hc' => ?_)
                  rw [htk, ridesC_snoc]
                  have hxe : x.card = (cc : Int) := Hxe.out
                  by_cases e : c' = cc
                  · subst e
                    rw [if_pos rfl, if_pos hxe, Hrl.out]
                  · rw [if_neg e, if_neg (by rw [hxe]; omega)]
              have Hkey := Lib.hid key
              have Hhow := Lib.hid how
              clear key how
              refine wp_region_pickA [0, 1, 2, 3, 4, 5, 6, 7, 8] 5 (fun i => i != 13) S (by kernel_rfl) (by kernel_rfl) (fun _ _ _ _ _ h => h) hd (fun hne => ?_)
              have n0 : ∀ y : Meets S, y.val.cell? ⟨XB, 0, none⟩ = some (.int .i64 x.machine) := fun y => box_cells (hSp y).1 0
              have n1 : ∀ y : Meets S, y.val.cell? ⟨XB, 1, none⟩ = some (.int .i64 x.number) := fun y => box_cells (hSp y).1 1
              have n2 : ∀ y : Meets S, y.val.cell? ⟨XB, 2, none⟩ = some (.int .i64 (cc : Int)) := fun y => box_cells (hSp y).1 2
              have n3 : ∀ y : Meets S, y.val.cell? ⟨XB, 3, none⟩ = some (.int .i64 x.ride.day) := fun y => box_cells (hSp y).1 3
              have n4 : ∀ y : Meets S, y.val.cell? ⟨XB, 4, none⟩ = some (.int .i64 x.ride.minute) := fun y => box_cells (hSp y).1 4
              have n5 : ∀ y : Meets S, y.val.cell? ⟨XB, 5, none⟩ = some (.int .i64 x.ride.low) := fun y => box_cells (hSp y).1 5
              have n6 : ∀ y : Meets S, y.val.cell? ⟨XB, 6, none⟩ = some (.int .i64 x.ride.high) := fun y => box_cells (hSp y).1 6
              have n7 : ∀ y : Meets S, y.val.cell? ⟨OB, cc, none⟩ = some (us cc) := fun y => told_cell (hSp y).2 hcc2
              have icc : (cc : Int) < 10 := by omega
              have icc0 : (0 : Int) ≤ (cc : Int) := by omega
              simp only [pick, pickN, List.filterMap_cons, List.filterMap_nil, List.getElem?_cons_zero, List.getElem?_cons_succ, Option.map_some]
              repeat (change wpQuiet _ _ _ _ (_ :: _) _; go_big_quiet_step (fail))
              refine wpQuiet_nil ?_
              clear n0 n1 n2 n3 n4 n5 n6 n7 hne hSp
              refine wpAnyF_two (i := 9) (j := 11) (by kernel_rfl) rfl rfl (fun K2 hK2 => ?_) (fun K2 hK2 => ?_)
              · go_simp
                refine hK2.out _ _ (fun _ => HSi.out _ ((Below.heap_alloc _ _ _ (Array.getElem?_eq_some_iff.1 HX5.out).1).trans HX5.out) ((Below.heap_alloc _ _ _ (Array.getElem?_eq_some_iff.1 HO5.out).1).trans HO5.out)) ?_
                clear hK2 K2
                refine wpAnyF_two (i := 10) (j := 11) (by kernel_rfl) rfl rfl (fun K2 hK2 => ?_) (fun K2 hK2 => ?_)
                · refine step_append_src _ rfl (.tmp 83) (.tmp 86) 37 rfl w.heap.size 70 i0 _ 4 32 Try.underlying37 hi0 hz0 hz1 hz2 rfl (by omega) (us cc) rl.length (rl.flatMap rdC) rfl (Hhow.out.alloc (.cells (rdC x.ride).toArray 70)) (some ⟨w5.drew.heap.size, 0, none⟩) 1 1 (rdC x.ride) rfl (src_new w5.drew (rdC x.ride) 70 1 4 rfl) (by simp [rdC, Value.oneCell']) (by unfold maxLen; omega) (by omega) (Nat.le_trans Hb5.out.size (((Below.refl _ w5).drew).alloc (Nat.le_refl _) _).size) ?_
                  intro A9 k9 wd hown9 hg9 hat9
                  have HXd := own_grow (w := w5.drew) Hhow.out HX5.out (by decide) hg9
                  have HOd := own_grow (w := w5.drew) Hhow.out HO5.out (by decide) hg9
                  refine hK2.out _ _ (fun _ => HSi.out _ HXd HOd) ?_
                  clear hK2 K2
                  refine wpAnyF_one (i := 11) (by kernel_rfl) rfl (fun K2 hK2 => ?_)
                  go_simp
                  refine hK2.out _ _ (fun _ => HSi.out _ HXd HOd) ?_
                  clear hK2 K2
                  refine wpAnyF_one (i := 12) (by kernel_rfl) rfl (fun K2 hK2 => ?_)
                  go_simp
                  refine hK2.out _ _ (fun _ => HSi.out _ HXd HOd) ?_
                  clear hK2 K2
                  refine wpAnyF_one (i := 13) (by kernel_rfl) rfl (fun K2 hK2 => ?_)
                  have qd := told_cell HOd hcc2
                  have fd := box_frozen HOd cc
                  go_simp
                  refine hK2.out _ _ (fun h => by cases h) ?_
                  clear hK2 K2
                  refine wpAnyF_done (by kernel_rfl) ?_ _
                  refine NoPanic.normal ?_
                  have Hk := Lib.hid (Hkey.out A9 k9 wd hown9 hg9 hat9)
                  clear HOd HXd hown9 hg9 hat9 qd fd
                  go_wp2
                  go_roundw
                  case rel =>
                    obtain ⟨n', F', us', r1, r2, r3, r4, r5, r6, r7, r8⟩ := Hk.out
                    exact ⟨k + 1, n', F', us', by omega, rfl, by go_num, r1, r2, r3, r4, r5, r6, r7, r8⟩
                  case measure => simp [intOf]; omega
                · go_simp
                  refine hK2.out _ _ (fun _ => HSi.out _ ((Below.heap_alloc _ _ _ (Array.getElem?_eq_some_iff.1 HX5.out).1).trans HX5.out) ((Below.heap_alloc _ _ _ (Array.getElem?_eq_some_iff.1 HO5.out).1).trans HO5.out)) ?_
                  clear hK2 K2
                  refine wpAnyF_one (i := 10) (by kernel_rfl) rfl (fun K2 hK2 => ?_)
                  refine step_append_src _ rfl (.tmp 83) (.tmp 86) 37 rfl w.heap.size 70 i0 _ 4 32 Try.underlying37 hi0 hz0 hz1 hz2 rfl (by omega) (us cc) rl.length (rl.flatMap rdC) rfl (Hhow.out.alloc (.cells (rdC x.ride).toArray 70)) (some ⟨w5.drew.heap.size, 0, none⟩) 1 1 (rdC x.ride) rfl (src_new w5.drew (rdC x.ride) 70 1 4 rfl) (by simp [rdC, Value.oneCell']) (by unfold maxLen; omega) (by omega) (Nat.le_trans Hb5.out.size (((Below.refl _ w5).drew).alloc (Nat.le_refl _) _).size) ?_
                  intro A9 k9 wd hown9 hg9 hat9
                  have HXd := own_grow (w := w5.drew) Hhow.out HX5.out (by decide) hg9
                  have HOd := own_grow (w := w5.drew) Hhow.out HO5.out (by decide) hg9
                  refine hK2.out _ _ (fun _ => HSi.out _ HXd HOd) ?_
                  clear hK2 K2
                  refine wpAnyF_one (i := 12) (by kernel_rfl) rfl (fun K2 hK2 => ?_)
                  go_simp
                  refine hK2.out _ _ (fun _ => HSi.out _ HXd HOd) ?_
                  clear hK2 K2
                  refine wpAnyF_one (i := 13) (by kernel_rfl) rfl (fun K2 hK2 => ?_)
                  have qd := told_cell HOd hcc2
                  have fd := box_frozen HOd cc
                  go_simp
                  refine hK2.out _ _ (fun h => by cases h) ?_
                  clear hK2 K2
                  refine wpAnyF_done (by kernel_rfl) ?_ _
                  refine NoPanic.normal ?_
                  have Hk := Lib.hid (Hkey.out A9 k9 wd hown9 hg9 hat9)
                  clear HOd HXd hown9 hg9 hat9 qd fd
                  go_wp2
                  go_roundw
                  case rel =>
                    obtain ⟨n', F', us', r1, r2, r3, r4, r5, r6, r7, r8⟩ := Hk.out
                    exact ⟨k + 1, n', F', us', by omega, rfl, by go_num, r1, r2, r3, r4, r5, r6, r7, r8⟩
                  case measure => simp [intOf]; omega
              · go_simp
                refine hK2.out _ _ (fun _ => HSi.out _ HX5.out HO5.out) ?_
                clear hK2 K2
                refine wpAnyF_one (i := 9) (by kernel_rfl) rfl (fun K2 hK2 => ?_)
                go_simp
                refine hK2.out _ _ (fun _ => HSi.out _ ((Below.heap_alloc _ _ _ (Array.getElem?_eq_some_iff.1 HX5.out).1).trans HX5.out) ((Below.heap_alloc _ _ _ (Array.getElem?_eq_some_iff.1 HO5.out).1).trans HO5.out)) ?_
                clear hK2 K2
                refine wpAnyF_one (i := 10) (by kernel_rfl) rfl (fun K2 hK2 => ?_)
                refine step_append_src _ rfl (.tmp 83) (.tmp 86) 37 rfl w.heap.size 70 i0 _ 4 32 Try.underlying37 hi0 hz0 hz1 hz2 rfl (by omega) (us cc) rl.length (rl.flatMap rdC) rfl (Hhow.out.alloc (.cells (rdC x.ride).toArray 70)) (some ⟨w5.drew.heap.size, 0, none⟩) 1 1 (rdC x.ride) rfl (src_new w5.drew (rdC x.ride) 70 1 4 rfl) (by simp [rdC, Value.oneCell']) (by unfold maxLen; omega) (by omega) (Nat.le_trans Hb5.out.size (((Below.refl _ w5).drew).alloc (Nat.le_refl _) _).size) ?_
                intro A9 k9 wd hown9 hg9 hat9
                have HXd := own_grow (w := w5.drew) Hhow.out HX5.out (by decide) hg9
                have HOd := own_grow (w := w5.drew) Hhow.out HO5.out (by decide) hg9
                refine hK2.out _ _ (fun _ => HSi.out _ HXd HOd) ?_
                clear hK2 K2
                refine wpAnyF_one (i := 12) (by kernel_rfl) rfl (fun K2 hK2 => ?_)
                go_simp
                refine hK2.out _ _ (fun _ => HSi.out _ HXd HOd) ?_
                clear hK2 K2
                refine wpAnyF_one (i := 13) (by kernel_rfl) rfl (fun K2 hK2 => ?_)
                have qd := told_cell HOd hcc2
                have fd := box_frozen HOd cc
                go_simp
                refine hK2.out _ _ (fun h => by cases h) ?_
                clear hK2 K2
                refine wpAnyF_done (by kernel_rfl) ?_ _
                refine NoPanic.normal ?_
                have Hk := Lib.hid (Hkey.out A9 k9 wd hown9 hg9 hat9)
                clear HOd HXd hown9 hg9 hat9 qd fd
                go_wp2
                go_roundw
                case rel =>
                  obtain ⟨n', F', us', r1, r2, r3, r4, r5, r6, r7, r8⟩ := Hk.out
                  exact ⟨k + 1, n', F', us', by omega, rfl, by go_num, r1, r2, r3, r4, r5, r6, r7, r8⟩
                case measure => simp [intOf]; omega
            | some u =>
              obtain ⟨y, hy, hny, rfl⟩ := Hbk.out _ _ hF
              obtain ⟨hm1, hm2⟩ := numV_inj hny
              by_cases hyx : y = x
              · subst hyx
                have HF := Lib.hid hF
                clear hF hy hny hm1 hm2
                go_upto_region 19 with (at_lookup; refine wpList_look_some num_law rfl (.tmp 62) (.tmp 63) rfl Try.underlying107 (tap_zero _) (numV y.machine y.number) rfl rfl hMV.out Hky.out (u := .agg #[.int .i64 y.machine, .int .i64 y.number, .int .i64 y.card, .int .i64 y.ride.day, .int .i64 y.ride.minute, .int .i64 y.ride.low, .int .i64 y.ride.high]) HF.out ?_)
                refine wp_name (fun V1 => Below V.heap.size V V1 ∧ V1.heap[V.heap.size]? = some (.cells #[.int .i64 y.machine, .int .i64 y.number, .int .i64 y.card, .int .i64 y.ride.day, .int .i64 y.ride.minute, .int .i64 y.ride.low, .int .i64 y.ride.high] 91 (0, 0))) ⟨(Below.refl _ _).alloc (Nat.le_refl _) _, heap_alloc_new V _⟩ (fun V1 hV1 => ?_)
                obtain ⟨hb1, hY1⟩ := hV1
                clear x0 x1 x2 x3 x4 x5 x6 n0 n1 m0
                have HO1 := Lib.hid ((hb1.block _ (Array.getElem?_eq_some_iff.1 hOV.out).1).trans hOV.out)
                have HX1 := Lib.hid ((hb1.block _ (Array.getElem?_eq_some_iff.1 HXV.out).1).trans HXV.out)
                have HN1 := Lib.hid ((hb1.block _ (Array.getElem?_eq_some_iff.1 HNV.out).1).trans HNV.out)
                have HM1 := Lib.hid (hMV.out.below hb1)
                have Hb1 := Lib.hid (HbV.out.trans (hb1.mono HbV.out.size))
                have qx := box_cells HX1.out
                have x0 := qx 0
                have x1 := qx 1
                have x2 := qx 2
                have x3 := qx 3
                have x4 := qx 4
                have x5 := qx 5
                have x6 := qx 6
                have qn := box_cells HN1.out
                have n0 := qn 0
                have n1 := qn 1
                have qy := box_cells hY1
                have y0 := qy 0
                have y1 := qy 1
                have y2 := qy 2
                have y3 := qy 3
                have y4 := qy 4
                have y5 := qy 5
                have y6 := qy 6
                simp only [List.getElem?_toArray, List.getElem?_cons_zero, List.getElem?_cons_succ] at x0 x1 x2 x3 x4 x5 x6 n0 n1 y0 y1 y2 y3 y4 y5 y6
                have m0 := told_map HO1.out
                clear qx qn qy hY1 hb1 hOV HXV HNV hMV HbV
                have es : decide (y = y) = true := decide_eq_true rfl
                go_upto_region 22 with (at_mapUpdate; refine wpList_upd_v num_law rfl (.tmp 74) (.tmp 75) (.tmp 76) rfl Try.underlying107 (numV y.machine y.number) (tpV y) rfl rfl rfl HM1.out (by simp [maxLen]; omega) Hky.out ?_; intro w5 hm5 hg5)
                clear x0 x1 x2 x3 x4 x5 x6 n0 n1 y0 y1 y2 y3 y4 y5 y6 m0 es
                have nc : ∀ cur U fr, V1.heap[K]? ≠ some (.cells cur U fr) := fun cur U fr e => HM1.out.notCells e rfl
                have HX5 := Lib.hid ((hg5.block _ (Array.getElem?_eq_some_iff.1 HX1.out).1 (fun e => by injection e with e; exact XK e.symm)).trans HX1.out)
                have HO5 := Lib.hid ((hg5.block _ (Array.getElem?_eq_some_iff.1 HO1.out).1 (fun e => by injection e with e; exact hK e)).trans HO1.out)
                have HM5 := Lib.hid hm5
                have HT5 := Lib.hid ((Hten.out.below Hb1.out).kept hg5 (fun cu fr => nc cu _ fr))
                have hbw : Below w.heap.size w V1 := Hbr.out.trans (Hb1.out.mono Hbr.out.size)
                have Hb5 := Lib.hid (below_by hbw hK0 hg5)
                have hs5 : OB < w5.heap.size := (Array.getElem?_eq_some_iff.1 HO5.out).1
                clear hm5 hg5 nc hbw HX1 HO1 HN1 HM1 Hb1
                obtain ⟨cc, hcceq⟩ : ∃ cc, y.card.toNat = cc := ⟨_, rfl⟩
                have hxe : y.card = (cc : Int) := by rw [← hcceq]; exact Hxc.out
                have Hxe := Lib.hid hxe
                rw [hcceq] at hcc2
                clear hcceq hxe
                obtain ⟨S, hS⟩ : ∃ S : World → Prop, ∀ W, S W ↔ (W.heap[XB]? = some (.cells #[.int .i64 y.machine, .int .i64 y.number, .int .i64 (cc : Int), .int .i64 y.ride.day, .int .i64 y.ride.minute, .int .i64 y.ride.low, .int .i64 y.ride.high] 91 (0, 0)) ∧ W.heap[OB]? = some (.cells (toldC us (.map (some K))).toArray 109 (0, 0))) := ⟨_, fun _ => Iff.rfl⟩
                have hSi : ∀ W : World, W.heap[XB]? = some (.cells #[.int .i64 y.machine, .int .i64 y.number, .int .i64 y.card, .int .i64 y.ride.day, .int .i64 y.ride.minute, .int .i64 y.ride.low, .int .i64 y.ride.high] 91 (0, 0)) → W.heap[OB]? = some (.cells (toldC us (.map (some K))).toArray 109 (0, 0)) → S W := fun W h1 h2 => (hS W).2 ⟨by rw [Hxe.out] at h1; exact h1, h2⟩
                have hd : S w5.drew := hSi _ HX5.out HO5.out
                have hSp := fun y2 : Meets S => (hS y2.val).1 y2.property
                have HSi := Lib.hid hSi
                clear hS hSi
                try go_simp
                refine wp_region_noPanic ?_
                have how := (HT5.out.below ((Below.refl _ _).drew)).own cc hcc2
                have hat := (HT5.out.below (((Below.refl _ _).drew).alloc (Nat.le_refl _) (.cells (rdC y.ride).toArray 70)))
                have hll : (ridesC (l.take k) (cc : Int)).length ≤ 1000000 := by
                  have := ridesC_len (l.take k) cc
                  have := List.length_take_le k l
                  omega
                have Hhow := Lib.hid how
                have Hhat := Lib.hid hat
                clear hat
                obtain ⟨rl, hrl⟩ : ∃ rl, ridesC (l.take k) (cc : Int) = rl := ⟨_, rfl⟩
                rw [hrl] at how hll
                have Hrl := Lib.hid hrl
                clear hrl
                have key : ∀ (A9 : Option Addr) (k9 : Nat) (wd : World), wd.ownsRow w.heap.size 70 4 (.slice A9 (rl.length + 1) k9) (rl.length + 1) (rl.flatMap rdC ++ rdC y.ride) → (w5.drew.alloc (.cells (rdC y.ride).toArray 70)).grownBy wd (us cc).ownBlock →
                    ((Value.slice A9 (rl.length + 1) k9).ownBlock = (us cc).ownBlock ∨ (Value.slice A9 (rl.length + 1) k9).ownBlock = some (w5.drew.alloc (.cells (rdC y.ride).toArray 70)).heap.size) →
                    ∃ (n' : Nat) (F' : Value → Option Value) (us' : Nat → Value), Below w.heap.size w (wd.setCell ⟨OB, cc, none⟩ (.slice A9 (rl.length + 1) k9)) ∧ OB < (wd.setCell ⟨OB, cc, none⟩ (.slice A9 (rl.length + 1) k9)).heap.size ∧ (wd.setCell ⟨OB, cc, none⟩ (.slice A9 (rl.length + 1) k9)).heap[OB]? = some (.cells (toldC us' (.map (some K))).toArray 109 (0, 0)) ∧
                      MapN 139 (wd.setCell ⟨OB, cc, none⟩ (.slice A9 (rl.length + 1) k9)) K n' F' ∧ n' ≤ k + 1 ∧ (∀ y ∈ l.take (k + 1), F' (numV y.machine y.number) = some (tpV y)) ∧ (∀ m u, F' m = some u → ∃ y ∈ l.take (k + 1), m = numV y.machine y.number ∧ u = tpV y) ∧ Ten (wd.setCell ⟨OB, cc, none⟩ (.slice A9 (rl.length + 1) k9)) w.heap.size us' (fun c => ridesC (l.take (k + 1)) c) := by
                  intro A9 k9 wd hown9 hg9 hat9
                  have HOd := own_grow (w := w5.drew) how HO5.out (by decide) hg9
                  have hOz := told_set HOd hcc2 (.slice A9 (rl.length + 1) k9)
                  have hgz := grown_set (World.grownBy.refl wd (some OB)) cc (.slice A9 (rl.length + 1) k9)
                  have htk : l.take (k + 1) = l.take k ++ [y] := by rw [List.take_add_one, Hx.out]; rfl
                  have hbd : Below w.heap.size w wd := by
                    have h5 : Below w.heap.size w (w5.drew.alloc (.cells (rdC y.ride).toArray 70)) := (Hb5.out.drew).alloc Hb5.out.size _
                    exact below_grown h5 hg9 h5.size (how.alloc _) (Nat.le_refl _)
                  have hKo : some K ≠ (us cc).ownBlock := fun e => by
                    obtain ⟨_, _, cur, hcur⟩ := own_lt how e.symm
                    exact HM5.out.notCells hcur rfl
                  have hMd : MapN 139 wd K (n + 1) (updV F (numV y.machine y.number) (tpV y)) := (HM5.out.below (((Below.refl _ _).drew).alloc (Nat.le_refl _) _)).kept (hg9.block _ (Nat.lt_of_lt_of_le HM5.out.lt (((Below.refl _ w5).drew).alloc (Nat.le_refl _) _).size) hKo)
                  have hTd := Hhat.out.grow hcc2 (l1 := rl ++ [y.ride]) (by simp) (by simp) hown9 hg9 hat9
                  refine ⟨n + 1, updV F (numV y.machine y.number) (tpV y), updU us cc (.slice A9 (rl.length + 1) k9), below_by hbd hOB0 hgz, Nat.lt_of_lt_of_le (Array.getElem?_eq_some_iff.1 HOd).1 hgz.size, hOz, hMd.kept (hgz.block _ hMd.lt (fun e => by injection e with e; exact hK e.symm)), by omega, fun y2 hy => ?_, fun m u h => ?_, ?_⟩
                  · rw [htk] at hy
                    by_cases e : numV y2.machine y2.number = numV y.machine y.number
                    · rw [e, updV_same]
                      rcases List.mem_append.1 hy with h | h
                      · have := Hfw.out y2 h
                        rw [e, HF.out] at this
                        injection this with this; exact congrArg some this
                      · rw [List.mem_singleton.1 h]
                    · rw [updV_other e]
                      rcases List.mem_append.1 hy with h | h
                      · exact Hfw.out y2 h
                      · rw [List.mem_singleton.1 h] at e; exact absurd rfl e
                  · rw [htk]
                    by_cases e : m = numV y.machine y.number
                    · subst e
                      rw [updV_same] at h
                      cases h
                      exact ⟨y, by simp, rfl, rfl⟩
                    · rw [updV_other e] at h
                      obtain ⟨y2, hy, h1, h2⟩ := Hbk.out m u h
                      exact ⟨y2, by simp [hy], h1, h2⟩
                  · refine (hTd.kept hgz (fun cu fr e => by rw [HOd] at e; cases e)).cong (fun c' hc' => ?_)
                    rw [htk, ridesC_snoc]
                    have hxe : y.card = (cc : Int) := Hxe.out
                    by_cases e : c' = cc
                    · subst e
                      rw [if_pos rfl, if_pos hxe, Hrl.out]
                    · rw [if_neg e, if_neg (by rw [hxe]; omega)]
                have Hkey := Lib.hid key
                have Hhow := Lib.hid how
                clear key how
                refine wp_region_pickA [0, 1, 2, 3, 4, 5, 6, 7, 8] 5 (fun i => i != 13) S (by kernel_rfl) (by kernel_rfl) (fun _ _ _ _ _ h => h) hd (fun hne => ?_)
                have n0 : ∀ y2 : Meets S, y2.val.cell? ⟨XB, 0, none⟩ = some (.int .i64 y.machine) := fun y2 => box_cells (hSp y2).1 0
                have n1 : ∀ y2 : Meets S, y2.val.cell? ⟨XB, 1, none⟩ = some (.int .i64 y.number) := fun y2 => box_cells (hSp y2).1 1
                have n2 : ∀ y2 : Meets S, y2.val.cell? ⟨XB, 2, none⟩ = some (.int .i64 (cc : Int)) := fun y2 => box_cells (hSp y2).1 2
                have n3 : ∀ y2 : Meets S, y2.val.cell? ⟨XB, 3, none⟩ = some (.int .i64 y.ride.day) := fun y2 => box_cells (hSp y2).1 3
                have n4 : ∀ y2 : Meets S, y2.val.cell? ⟨XB, 4, none⟩ = some (.int .i64 y.ride.minute) := fun y2 => box_cells (hSp y2).1 4
                have n5 : ∀ y2 : Meets S, y2.val.cell? ⟨XB, 5, none⟩ = some (.int .i64 y.ride.low) := fun y2 => box_cells (hSp y2).1 5
                have n6 : ∀ y2 : Meets S, y2.val.cell? ⟨XB, 6, none⟩ = some (.int .i64 y.ride.high) := fun y2 => box_cells (hSp y2).1 6
                have n7 : ∀ y2 : Meets S, y2.val.cell? ⟨OB, cc, none⟩ = some (us cc) := fun y2 => told_cell (hSp y2).2 hcc2
                have icc : (cc : Int) < 10 := by omega
                have icc0 : (0 : Int) ≤ (cc : Int) := by omega
                simp only [pick, pickN, List.filterMap_cons, List.filterMap_nil, List.getElem?_cons_zero, List.getElem?_cons_succ, Option.map_some]
                repeat (change wpQuiet _ _ _ _ (_ :: _) _; go_big_quiet_step (fail))
                refine wpQuiet_nil ?_
                clear n0 n1 n2 n3 n4 n5 n6 n7 hne hSp
                refine wpAnyF_two (i := 9) (j := 11) (by kernel_rfl) rfl rfl (fun K2 hK2 => ?_) (fun K2 hK2 => ?_)
                · go_simp
                  refine hK2.out _ _ (fun _ => HSi.out _ ((Below.heap_alloc _ _ _ (Array.getElem?_eq_some_iff.1 HX5.out).1).trans HX5.out) ((Below.heap_alloc _ _ _ (Array.getElem?_eq_some_iff.1 HO5.out).1).trans HO5.out)) ?_
                  clear hK2 K2
                  refine wpAnyF_two (i := 10) (j := 11) (by kernel_rfl) rfl rfl (fun K2 hK2 => ?_) (fun K2 hK2 => ?_)
                  · refine step_append_src _ rfl (.tmp 83) (.tmp 86) 37 rfl w.heap.size 70 i0 _ 4 32 Try.underlying37 hi0 hz0 hz1 hz2 rfl (by omega) (us cc) rl.length (rl.flatMap rdC) rfl (Hhow.out.alloc (.cells (rdC y.ride).toArray 70)) (some ⟨w5.drew.heap.size, 0, none⟩) 1 1 (rdC y.ride) rfl (src_new w5.drew (rdC y.ride) 70 1 4 rfl) (by simp [rdC, Value.oneCell']) (by unfold maxLen; omega) (by omega) (Nat.le_trans Hb5.out.size (((Below.refl _ w5).drew).alloc (Nat.le_refl _) _).size) ?_
                    intro A9 k9 wd hown9 hg9 hat9
                    have HXd := own_grow (w := w5.drew) Hhow.out HX5.out (by decide) hg9
                    have HOd := own_grow (w := w5.drew) Hhow.out HO5.out (by decide) hg9
                    refine hK2.out _ _ (fun _ => HSi.out _ HXd HOd) ?_
                    clear hK2 K2
                    refine wpAnyF_one (i := 11) (by kernel_rfl) rfl (fun K2 hK2 => ?_)
                    go_simp
                    refine hK2.out _ _ (fun _ => HSi.out _ HXd HOd) ?_
                    clear hK2 K2
                    refine wpAnyF_one (i := 12) (by kernel_rfl) rfl (fun K2 hK2 => ?_)
                    go_simp
                    refine hK2.out _ _ (fun _ => HSi.out _ HXd HOd) ?_
                    clear hK2 K2
                    refine wpAnyF_one (i := 13) (by kernel_rfl) rfl (fun K2 hK2 => ?_)
                    have qd := told_cell HOd hcc2
                    have fd := box_frozen HOd cc
                    go_simp
                    refine hK2.out _ _ (fun h => by cases h) ?_
                    clear hK2 K2
                    refine wpAnyF_done (by kernel_rfl) ?_ _
                    refine NoPanic.normal ?_
                    have Hk := Lib.hid (Hkey.out A9 k9 wd hown9 hg9 hat9)
                    clear HOd HXd hown9 hg9 hat9 qd fd
                    go_wp2
                    go_roundw
                    case rel =>
                      obtain ⟨n', F', us', r1, r2, r3, r4, r5, r6, r7, r8⟩ := Hk.out
                      exact ⟨k + 1, n', F', us', by omega, rfl, by go_num, r1, r2, r3, r4, r5, r6, r7, r8⟩
                    case measure => simp [intOf]; omega
                  · go_simp
                    refine hK2.out _ _ (fun _ => HSi.out _ ((Below.heap_alloc _ _ _ (Array.getElem?_eq_some_iff.1 HX5.out).1).trans HX5.out) ((Below.heap_alloc _ _ _ (Array.getElem?_eq_some_iff.1 HO5.out).1).trans HO5.out)) ?_
                    clear hK2 K2
                    refine wpAnyF_one (i := 10) (by kernel_rfl) rfl (fun K2 hK2 => ?_)
                    refine step_append_src _ rfl (.tmp 83) (.tmp 86) 37 rfl w.heap.size 70 i0 _ 4 32 Try.underlying37 hi0 hz0 hz1 hz2 rfl (by omega) (us cc) rl.length (rl.flatMap rdC) rfl (Hhow.out.alloc (.cells (rdC y.ride).toArray 70)) (some ⟨w5.drew.heap.size, 0, none⟩) 1 1 (rdC y.ride) rfl (src_new w5.drew (rdC y.ride) 70 1 4 rfl) (by simp [rdC, Value.oneCell']) (by unfold maxLen; omega) (by omega) (Nat.le_trans Hb5.out.size (((Below.refl _ w5).drew).alloc (Nat.le_refl _) _).size) ?_
                    intro A9 k9 wd hown9 hg9 hat9
                    have HXd := own_grow (w := w5.drew) Hhow.out HX5.out (by decide) hg9
                    have HOd := own_grow (w := w5.drew) Hhow.out HO5.out (by decide) hg9
                    refine hK2.out _ _ (fun _ => HSi.out _ HXd HOd) ?_
                    clear hK2 K2
                    refine wpAnyF_one (i := 12) (by kernel_rfl) rfl (fun K2 hK2 => ?_)
                    go_simp
                    refine hK2.out _ _ (fun _ => HSi.out _ HXd HOd) ?_
                    clear hK2 K2
                    refine wpAnyF_one (i := 13) (by kernel_rfl) rfl (fun K2 hK2 => ?_)
                    have qd := told_cell HOd hcc2
                    have fd := box_frozen HOd cc
                    go_simp
                    refine hK2.out _ _ (fun h => by cases h) ?_
                    clear hK2 K2
                    refine wpAnyF_done (by kernel_rfl) ?_ _
                    refine NoPanic.normal ?_
                    have Hk := Lib.hid (Hkey.out A9 k9 wd hown9 hg9 hat9)
                    clear HOd HXd hown9 hg9 hat9 qd fd
                    go_wp2
                    go_roundw
                    case rel =>
                      obtain ⟨n', F', us', r1, r2, r3, r4, r5, r6, r7, r8⟩ := Hk.out
                      exact ⟨k + 1, n', F', us', by omega, rfl, by go_num, r1, r2, r3, r4, r5, r6, r7, r8⟩
                    case measure => simp [intOf]; omega
                · go_simp
                  refine hK2.out _ _ (fun _ => HSi.out _ HX5.out HO5.out) ?_
                  clear hK2 K2
                  refine wpAnyF_one (i := 9) (by kernel_rfl) rfl (fun K2 hK2 => ?_)
                  go_simp
                  refine hK2.out _ _ (fun _ => HSi.out _ ((Below.heap_alloc _ _ _ (Array.getElem?_eq_some_iff.1 HX5.out).1).trans HX5.out) ((Below.heap_alloc _ _ _ (Array.getElem?_eq_some_iff.1 HO5.out).1).trans HO5.out)) ?_
                  clear hK2 K2
                  refine wpAnyF_one (i := 10) (by kernel_rfl) rfl (fun K2 hK2 => ?_)
                  refine step_append_src _ rfl (.tmp 83) (.tmp 86) 37 rfl w.heap.size 70 i0 _ 4 32 Try.underlying37 hi0 hz0 hz1 hz2 rfl (by omega) (us cc) rl.length (rl.flatMap rdC) rfl (Hhow.out.alloc (.cells (rdC y.ride).toArray 70)) (some ⟨w5.drew.heap.size, 0, none⟩) 1 1 (rdC y.ride) rfl (src_new w5.drew (rdC y.ride) 70 1 4 rfl) (by simp [rdC, Value.oneCell']) (by unfold maxLen; omega) (by omega) (Nat.le_trans Hb5.out.size (((Below.refl _ w5).drew).alloc (Nat.le_refl _) _).size) ?_
                  intro A9 k9 wd hown9 hg9 hat9
                  have HXd := own_grow (w := w5.drew) Hhow.out HX5.out (by decide) hg9
                  have HOd := own_grow (w := w5.drew) Hhow.out HO5.out (by decide) hg9
                  refine hK2.out _ _ (fun _ => HSi.out _ HXd HOd) ?_
                  clear hK2 K2
                  refine wpAnyF_one (i := 12) (by kernel_rfl) rfl (fun K2 hK2 => ?_)
                  go_simp
                  refine hK2.out _ _ (fun _ => HSi.out _ HXd HOd) ?_
                  clear hK2 K2
                  refine wpAnyF_one (i := 13) (by kernel_rfl) rfl (fun K2 hK2 => ?_)
                  have qd := told_cell HOd hcc2
                  have fd := box_frozen HOd cc
                  go_simp
                  refine hK2.out _ _ (fun h => by cases h) ?_
                  clear hK2 K2
                  refine wpAnyF_done (by kernel_rfl) ?_ _
                  refine NoPanic.normal ?_
                  have Hk := Lib.hid (Hkey.out A9 k9 wd hown9 hg9 hat9)
                  clear HOd HXd hown9 hg9 hat9 qd fd
                  go_wp2
                  go_roundw
                  case rel =>
                    obtain ⟨n', F', us', r1, r2, r3, r4, r5, r6, r7, r8⟩ := Hk.out
                    exact ⟨k + 1, n', F', us', by omega, rfl, by go_num, r1, r2, r3, r4, r5, r6, r7, r8⟩
                  case measure => simp [intOf]; omega
              · have HF := Lib.hid hF
                have hd6 : tapsF t l cs = 6 := by
                  unfold tapsF
                  rw [if_pos Ht.out, if_neg H40.out, if_pos Hcb.out, if_pos Hta.out, if_pos]
                  unfold twiceB
                  rw [List.any_eq_true]
                  refine ⟨y, List.mem_of_mem_take hy, List.any_eq_true.2 ⟨x, List.mem_of_getElem? Hx.out, ?_⟩⟩
                  unfold clashB
                  simp [hm1, hm2, hyx]
                have Hd := Lib.hid hd6
                have es : decide (y = x) = false := decide_eq_false hyx
                clear hF hy hny hm1 hm2 hyx hd6
                go_upto_region 19 with (at_lookup; refine wpList_look_some num_law rfl (.tmp 62) (.tmp 63) rfl Try.underlying107 (tap_zero _) (numV x.machine x.number) rfl rfl hMV.out Hky.out (u := .agg #[.int .i64 y.machine, .int .i64 y.number, .int .i64 y.card, .int .i64 y.ride.day, .int .i64 y.ride.minute, .int .i64 y.ride.low, .int .i64 y.ride.high]) HF.out ?_)
                refine wp_name (fun V1 => Below V.heap.size V V1 ∧ V1.heap[V.heap.size]? = some (.cells #[.int .i64 y.machine, .int .i64 y.number, .int .i64 y.card, .int .i64 y.ride.day, .int .i64 y.ride.minute, .int .i64 y.ride.low, .int .i64 y.ride.high] 91 (0, 0))) ⟨(Below.refl _ _).alloc (Nat.le_refl _) _, heap_alloc_new V _⟩ (fun V1 hV1 => ?_)
                obtain ⟨hb1, hY1⟩ := hV1
                clear x0 x1 x2 x3 x4 x5 x6 n0 n1 m0
                have HO1 := Lib.hid ((hb1.block _ (Array.getElem?_eq_some_iff.1 hOV.out).1).trans hOV.out)
                have HX1 := Lib.hid ((hb1.block _ (Array.getElem?_eq_some_iff.1 HXV.out).1).trans HXV.out)
                have Hb1 := Lib.hid (Hbr.out.trans ((HbV.out.trans (hb1.mono HbV.out.size)).mono Hbr.out.size))
                have qx := box_cells HX1.out
                have x0 := qx 0
                have x1 := qx 1
                have x2 := qx 2
                have x3 := qx 3
                have x4 := qx 4
                have x5 := qx 5
                have x6 := qx 6
                have qy := box_cells hY1
                have y0 := qy 0
                have y1 := qy 1
                have y2 := qy 2
                have y3 := qy 3
                have y4 := qy 4
                have y5 := qy 5
                have y6 := qy 6
                simp only [List.getElem?_toArray, List.getElem?_cons_zero, List.getElem?_cons_succ] at x0 x1 x2 x3 x4 x5 x6 y0 y1 y2 y3 y4 y5 y6
                clear qx qy hY1 hb1 hOV HXV HNV hMV HbV
                go_upto_region 25 with (fail)
                clear x0 x1 x2 x3 x4 x5 x6 y0 y1 y2 y3 y4 y5 y6 qe qg es
                have zq := box_cells HO1.out
                have zq0 := zq 0
                have zq1 := zq 1
                have zq2 := zq 2
                have zq3 := zq 3
                have zq4 := zq 4
                have zq5 := zq 5
                have zq6 := zq 6
                have zq7 := zq 7
                have zq8 := zq 8
                have zq9 := zq 9
                have zq10 := zq 10
                have zf0 := box_frozen HO1.out 0
                have zf1 := box_frozen HO1.out 1
                have zf2 := box_frozen HO1.out 2
                have zf3 := box_frozen HO1.out 3
                have zf4 := box_frozen HO1.out 4
                have zf5 := box_frozen HO1.out 5
                have zf6 := box_frozen HO1.out 6
                have zf7 := box_frozen HO1.out 7
                have zf8 := box_frozen HO1.out 8
                have zf9 := box_frozen HO1.out 9
                have zf10 := box_frozen HO1.out 10
                simp only [toldC, nilU, List.getElem?_toArray, List.getElem?_cons_zero, List.getElem?_cons_succ] at zq0 zq1 zq2 zq3 zq4 zq5 zq6 zq7 zq8 zq9 zq10
                clear zq
                go_wp2
                obtain ⟨z, zg⟩ := told_put (vs := nilU) (q := .map none) HO1.out
                have z0 := box_cells z 0
                have z1 := box_cells z 1
                have z2 := box_cells z 2
                have z3 := box_cells z 3
                have z4 := box_cells z 4
                have z5 := box_cells z 5
                have z6 := box_cells z 6
                have z7 := box_cells z 7
                have z8 := box_cells z 8
                have z9 := box_cells z 9
                have z10 := box_cells z 10
                have Z := Lib.hid z
                have Zg := Lib.hid zg
                clear z zg
                simp only [toldC, nilU, List.getElem?_toArray, List.getElem?_cons_zero, List.getElem?_cons_succ] at z0 z1 z2 z3 z4 z5 z6 z7 z8 z9 z10
                refine bodyPost_ret (v := .tuple #[.agg (toldC (nilU) (.map none)).toArray, .int .i64 6]) (by simp [results, Try.results58, go_sem, z0, z1, z2, z3, z4, z5, z6, z7, z8, z9, z10, toldC, nilU]) rfl ?_
                have hbl := below_by Hb1.out hOB0 Zg.out
                exact ⟨hbl, fun _ => by rw [Hd.out], fun h => absurd (Hd.out.symm.trans h) (by decide)⟩
          · obtain rfl : k = l.length := by omega
            have htl : l.take l.length = l := List.take_length
            have hno : NoClash l := fun x hx y hy e1 e2 => by
              have h1 := Hfw.out x (by rw [htl]; exact hx)
              have h2 := Hfw.out y (by rw [htl]; exact hy)
              rw [e1, e2, h2] at h1
              injection h1 with h1
              exact (tpV_inj h1).symm
            have htw : twiceB l = false := twiceB_false.2 hno
            have hlt' : ¬ (l.length : Int) < (l.length : Int) := by omega
            have hfw : ∀ m n : Int, 0 ≤ m → m ≤ 3 → 0 ≤ n → n < 50 → (F (numV m n)).isSome = hasB l m n := fun m n _ _ _ _ => by
              cases hq : F (numV m n) with
              | none =>
                cases hh : hasB l m n with
                | false => rfl
                | true =>
                  unfold hasB at hh
                  obtain ⟨x, hx, hxe⟩ := List.any_eq_true.1 hh
                  simp only [Bool.and_eq_true, decide_eq_true_eq] at hxe
                  have h1 := Hfw.out x (by rw [htl]; exact hx)
                  rw [hxe.1, hxe.2, hq] at h1
                  cases h1
              | some u =>
                obtain ⟨y, hy, e1, _⟩ := Hbk.out _ _ hq
                rw [htl] at hy
                obtain ⟨e1, e2⟩ := numV_inj e1
                symm
                unfold hasB
                exact List.any_eq_true.2 ⟨y, hy, by simp [e1, e2]⟩
            have hrd : ∀ c, c < 10 → RdsAt wr (us c) (ridesC l c) := fun c hc => by
              have := rds_own (Hten.out.own c hc)
              rw [htl] at this
              exact this
            have hvl : ∀ m u, F m = some u → ∃ y : Tp, u = tpV y := fun m u h => by
              obtain ⟨y, _, _, e⟩ := Hbk.out m u h
              exact ⟨y, e⟩
            have Hvl := Lib.hid hvl
            clear hvl
            have Htw := Lib.hid htw
            have HFw := Lib.hid hfw
            have Hrd := Lib.hid hrd
            clear hno htw hfw hrd htl Hfw Hbk Hten
            go_wp2
            go_loopw [93] (fun s ws => ∃ (j : Nat) (vs : Nat → Value), j ≤ 10 ∧ s = .int .i64 j ∧ Below w.heap.size w ws ∧ ws.heap[OB]? = some (.cells (toldC vs (.map (some K))).toArray 109 (0, 0)) ∧ MapN 139 ws K n F ∧
              (∀ c, c < 10 → RdsAt ws (vs c) (if c < j then onceL (ridesC l c) else ridesC l c)) ∧ (∀ c, c < j → (onceL (ridesC l c)).length ≤ 12)) (fun s ws => 10 - (intOf s).toNat)
            case atStart => exact ⟨0, us, by omega, rfl, Hbr.out, HOr.out, HMr.out, fun c hc => by rw [if_neg (by omega)]; exact Hrd.out c hc, fun c hc => by omega⟩
            case round =>
              obtain ⟨j, vs, hj, rfl, hbs, hOs, hMs, hrs, h12⟩ := hrel
              have Hbs := Lib.hid hbs
              have HOs := Lib.hid hOs
              have HMs := Lib.hid hMs
              have Hrs := Lib.hid hrs
              have H12 := Lib.hid h12
              clear hbs hOs hMs hrs h12 Hbr HOr HMr Hrd
              by_cases hj10 : j < 10
              · have hjr := Hrs.out j hj10
                rw [if_neg (by omega)] at hjr
                obtain ⟨Aj, cj, ej, _, _⟩ := hjr.form
                have Hjr := Lib.hid hjr
                have Hej := Lib.hid ej
                have qj := told_cell HOs.out hj10
                have fj := box_frozen HOs.out j
                have ij : (j : Int) < 10 := by omega
                have ij0 : (0 : Int) ≤ (j : Int) := by omega
                rw [ej] at qj
                clear hjr ej
                have hlr : (ridesC l (j : Int)).length ≤ 1000000 := by
                  have := ridesC_len l j
                  omega
                have Hlr := Lib.hid hlr
                clear hlr
                obtain ⟨rl, hrl⟩ : ∃ rl, ridesC l (j : Int) = rl := ⟨_, rfl⟩
                have Hrl := Lib.hid hrl
                rw [hrl] at qj
                clear hrl
                go_wp2_with fail
                refine (once_any _ rl wr (by have := Hjr.out; rw [Hej.out, Hrl.out] at this; exact this) (by have := Hlr.out; rw [Hrl.out] at this; exact this)).mono ?_
                rintro e w6 ⟨A6, c6, rfl, hr6, hb6⟩
                obtain ⟨ol, hol⟩ : ∃ ol, onceL rl = ol := ⟨_, rfl⟩
                rw [hol] at hr6 ⊢
                have Hol := Lib.hid hol
                have HO6 := Lib.hid ((hb6.block _ (Array.getElem?_eq_some_iff.1 HOs.out).1).trans HOs.out)
                have q6 := told_cell HO6.out hj10
                have f6 := box_frozen HO6.out j
                rw [Hej.out, Hrl.out] at q6
                have Hr6 := Lib.hid hr6
                have Hb6 := Lib.hid hb6
                clear hol qj fj hr6 hb6
                go_upto_region 30 with (fail)
                have hOz := told_set HO6.out hj10 (.slice A6 ol.length c6)
                have hgz := grown_set (World.grownBy.refl w6 (some OB)) j (.slice A6 ol.length c6)
                refine wp_name (fun V => V.heap[OB]? = some (.cells (toldC (updU vs j (.slice A6 ol.length c6)) (.map (some K))).toArray 109 (0, 0)) ∧ w6.grownBy V (some OB)) ⟨hOz, hgz⟩ (fun V hV => ?_)
                obtain ⟨hOV, hgV⟩ := hV
                have HOV := Lib.hid hOV
                have HgV := Lib.hid hgV
                have HbV := Lib.hid (below_by (Hbs.out.trans (Hb6.out.mono Hbs.out.size)) hOB0 hgV)
                have q7 := told_cell hOV hj10
                have e7 : updU vs j (.slice A6 ol.length c6) j = .slice A6 ol.length c6 := if_pos rfl
                rw [e7] at q7
                clear hOz hgz hOV hgV q6 f6 e7
                by_cases h12 : 12 < ol.length
                · have i12 : (12 : Int) < (ol.length : Int) := by omega
                  have hd : tapsF t l cs = 3 := by
                    unfold tapsF
                    rw [if_pos Ht.out, if_neg H40.out, if_pos Hcb.out, if_pos Hta.out, if_neg (by rw [Htw.out]; decide), if_pos]
                    unfold cardsB
                    refine List.any_eq_true.2 ⟨j, List.mem_range.2 hj10, ?_⟩
                    rw [Hrl.out, Hol.out]
                    exact decide_eq_true h12
                  have Hd := Lib.hid hd
                  clear h12 hd
                  go_upto_region 31 with (fail)
                  clear q7
                  have zq := box_cells HOV.out
                  have zq0 := zq 0
                  have zq1 := zq 1
                  have zq2 := zq 2
                  have zq3 := zq 3
                  have zq4 := zq 4
                  have zq5 := zq 5
                  have zq6 := zq 6
                  have zq7 := zq 7
                  have zq8 := zq 8
                  have zq9 := zq 9
                  have zq10 := zq 10
                  have zf0 := box_frozen HOV.out 0
                  have zf1 := box_frozen HOV.out 1
                  have zf2 := box_frozen HOV.out 2
                  have zf3 := box_frozen HOV.out 3
                  have zf4 := box_frozen HOV.out 4
                  have zf5 := box_frozen HOV.out 5
                  have zf6 := box_frozen HOV.out 6
                  have zf7 := box_frozen HOV.out 7
                  have zf8 := box_frozen HOV.out 8
                  have zf9 := box_frozen HOV.out 9
                  have zf10 := box_frozen HOV.out 10
                  simp only [toldC, nilU, List.getElem?_toArray, List.getElem?_cons_zero, List.getElem?_cons_succ] at zq0 zq1 zq2 zq3 zq4 zq5 zq6 zq7 zq8 zq9 zq10
                  clear zq
                  go_wp2
                  obtain ⟨z, zg⟩ := told_put (vs := nilU) (q := .map none) HOV.out
                  have z0 := box_cells z 0
                  have z1 := box_cells z 1
                  have z2 := box_cells z 2
                  have z3 := box_cells z 3
                  have z4 := box_cells z 4
                  have z5 := box_cells z 5
                  have z6 := box_cells z 6
                  have z7 := box_cells z 7
                  have z8 := box_cells z 8
                  have z9 := box_cells z 9
                  have z10 := box_cells z 10
                  have Z := Lib.hid z
                  have Zg := Lib.hid zg
                  clear z zg
                  simp only [toldC, nilU, List.getElem?_toArray, List.getElem?_cons_zero, List.getElem?_cons_succ] at z0 z1 z2 z3 z4 z5 z6 z7 z8 z9 z10
                  refine bodyPost_ret (v := .tuple #[.agg (toldC (nilU) (.map none)).toArray, .int .i64 3]) (by simp [results, Try.results58, go_sem, z0, z1, z2, z3, z4, z5, z6, z7, z8, z9, z10, toldC, nilU]) rfl ?_
                  have hbl := below_by HbV.out hOB0 Zg.out
                  exact ⟨hbl, fun _ => by rw [Hd.out], fun h => absurd (Hd.out.symm.trans h) (by decide)⟩
                · have i12 : ¬ (12 : Int) < (ol.length : Int) := by omega
                  have Hn12 := Lib.hid h12
                  clear h12
                  go_wp2
                  go_roundw
                  case rel =>
                    have hsl : ∀ c, c < 10 → ∃ A n k, vs c = .slice A n k := fun c hc => by
                      obtain ⟨A, k, e, _⟩ := (Hrs.out c hc).form
                      exact ⟨A, _, k, e⟩
                    refine ⟨j + 1, updU vs j (.slice A6 ol.length c6), by omega, by go_num, HbV.out, HOV.out, (HMs.out.below Hb6.out).kept (HgV.out.block _ (HMs.out.below Hb6.out).lt (fun e => by injection e with e; exact hK e.symm)), fun c hc => ?_, fun c hc => ?_⟩
                    · unfold updU
                      by_cases e : c = j
                      · subst e
                        rw [if_pos rfl, if_pos (by omega), Hrl.out, Hol.out]
                        exact rds_told Hr6.out HgV.out HO6.out hsl ⟨_, rfl⟩
                      · rw [if_neg e]
                        have h1 := Hrs.out c hc
                        have e2 : (if c < j + 1 then onceL (ridesC l c) else ridesC l c) = (if c < j then onceL (ridesC l c) else ridesC l c) := by
                          by_cases h : c < j
                          · rw [if_pos h, if_pos (by omega)]
                          · rw [if_neg h, if_neg (by omega)]
                        rw [e2]
                        exact rds_told (h1.below Hb6.out) HgV.out HO6.out hsl ⟨_, rfl⟩
                    · by_cases e : c = j
                      · subst e
                        rw [Hrl.out, Hol.out]
                        have := Hn12.out
                        omega
                      · exact H12.out c (by omega)
                  case measure => simp [intOf]; omega
              · have ij : ¬ (j : Int) < 10 := by omega
                have hjt : j = 10 := by omega
                have hd : tapsF t l cs = 0 := by
                  unfold tapsF
                  rw [if_pos Ht.out, if_neg H40.out, if_pos Hcb.out, if_pos Hta.out, if_neg (by rw [Htw.out]; decide), if_neg]
                  rw [cardsB_false.2 (fun c hc => H12.out c (by omega))]
                  decide
                have Hd := Lib.hid hd
                have hsl : ∀ c, c < 10 → ∃ A n k, vs c = .slice A n k := fun c hc => by
                  obtain ⟨A, k, e, _⟩ := (Hrs.out c hc).form
                  exact ⟨A, _, k, e⟩
                have Hsl := Lib.hid hsl
                clear hd hsl
                obtain ⟨eA0, en0, ek0, e0⟩ := Hsl.out 0 (by omega)
                obtain ⟨eA1, en1, ek1, e1⟩ := Hsl.out 1 (by omega)
                obtain ⟨eA2, en2, ek2, e2⟩ := Hsl.out 2 (by omega)
                obtain ⟨eA3, en3, ek3, e3⟩ := Hsl.out 3 (by omega)
                obtain ⟨eA4, en4, ek4, e4⟩ := Hsl.out 4 (by omega)
                obtain ⟨eA5, en5, ek5, e5⟩ := Hsl.out 5 (by omega)
                obtain ⟨eA6, en6, ek6, e6⟩ := Hsl.out 6 (by omega)
                obtain ⟨eA7, en7, ek7, e7⟩ := Hsl.out 7 (by omega)
                obtain ⟨eA8, en8, ek8, e8⟩ := Hsl.out 8 (by omega)
                obtain ⟨eA9, en9, ek9, e9⟩ := Hsl.out 9 (by omega)
                have zq := box_cells HOs.out
                have zq0 := zq 0
                have zq1 := zq 1
                have zq2 := zq 2
                have zq3 := zq 3
                have zq4 := zq 4
                have zq5 := zq 5
                have zq6 := zq 6
                have zq7 := zq 7
                have zq8 := zq 8
                have zq9 := zq 9
                have zq10 := zq 10
                have zf0 := box_frozen HOs.out 0
                have zf1 := box_frozen HOs.out 1
                have zf2 := box_frozen HOs.out 2
                have zf3 := box_frozen HOs.out 3
                have zf4 := box_frozen HOs.out 4
                have zf5 := box_frozen HOs.out 5
                have zf6 := box_frozen HOs.out 6
                have zf7 := box_frozen HOs.out 7
                have zf8 := box_frozen HOs.out 8
                have zf9 := box_frozen HOs.out 9
                have zf10 := box_frozen HOs.out 10
                simp only [toldC, nilU, e0, e1, e2, e3, e4, e5, e6, e7, e8, e9, List.getElem?_toArray, List.getElem?_cons_zero, List.getElem?_cons_succ] at zq0 zq1 zq2 zq3 zq4 zq5 zq6 zq7 zq8 zq9 zq10
                clear zq
                go_wp2
                obtain ⟨z, zg⟩ := told_put (vs := vs) (q := .map (some K)) HOs.out
                simp only [e0, e1, e2, e3, e4, e5, e6, e7, e8, e9] at z zg
                have z0 := box_cells z 0
                have z1 := box_cells z 1
                have z2 := box_cells z 2
                have z3 := box_cells z 3
                have z4 := box_cells z 4
                have z5 := box_cells z 5
                have z6 := box_cells z 6
                have z7 := box_cells z 7
                have z8 := box_cells z 8
                have z9 := box_cells z 9
                have z10 := box_cells z 10
                have Z := Lib.hid z
                have Zg := Lib.hid zg
                clear z zg
                simp only [toldC, nilU, e0, e1, e2, e3, e4, e5, e6, e7, e8, e9, List.getElem?_toArray, List.getElem?_cons_zero, List.getElem?_cons_succ] at z0 z1 z2 z3 z4 z5 z6 z7 z8 z9 z10
                refine bodyPost_ret (v := .tuple #[.agg (toldC (vs) (.map (some K))).toArray, .int .i64 0]) (by simp [results, Try.results58, go_sem, z0, z1, z2, z3, z4, z5, z6, z7, z8, z9, z10, e0, e1, e2, e3, e4, e5, e6, e7, e8, e9, toldC, nilU]) rfl ?_
                have hbl := below_by Hbs.out hOB0 Zg.out
                refine ⟨hbl, fun h => absurd Hd.out h, fun _ => ⟨vs, K, n, F, rfl, fun c hc => ?_, HMs.out.kept (Zg.out.block _ HMs.out.lt (fun e => by injection e with e; exact hK e.symm)), HFw.out, Hvl.out⟩⟩
                have h1 := Hrs.out c hc
                rw [if_pos (by omega)] at h1
                exact rds_told h1 Zg.out HOs.out Hsl.out ⟨_, rfl⟩
end Go.Proofs.Ytmbkpfkkohpnkaa
