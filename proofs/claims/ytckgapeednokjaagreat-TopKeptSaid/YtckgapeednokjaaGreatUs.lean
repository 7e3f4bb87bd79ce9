import Derived.Test.YtckgapeednokjaaGreatUr
set_option linter.unusedVariables false
set_option linter.unusedSimpArgs false
namespace Go.Proofs.YtckgapeednokjaaGreat
open Go Go.Proofs Go.RowKit

/-! ### (sheet.stretch).lack -/
def lkV (x : Lk) : Value := .agg #[.int .i64 x.mac, .int .i64 x.fr, .int .i64 x.to, .int .i64 x.sales, .int .i64 x.coins]
theorem nS_bd (l : List Rc) : 0 ≤ nS l ∧ nS l ≤ l.length := by
  have h : l.countP (fun r : Rc => decide (r.kind = 0)) ≤ l.length := List.countP_le_length
  unfold nS
  omega
theorem cS_bd : ∀ l : List Rc, (∀ r ∈ l, RcOk r) → 0 ≤ cS l ∧ cS l ≤ 10000 * l.length
  | [], _ => by simp [cS]
  | x :: l, h => by
    have h1 := cS_bd l (fun r hr => h r (by simp [hr]))
    have h2 := (h x (by simp)).kind
    unfold cS
    simp only [List.length_cons]
    split
    · rcases h2 with h2 | h2 | h2 <;> omega
    · omega
theorem results_cell_tmp2 {P : Program} {fn : Func} {p u : Tmp} {ty : TypeId} (h : fn.results = #[.cell p ty, .tmp u]) (tmps : Array Value) (w : World) (g : Nat) (t : TypeId) (cs : Array Value) (fr : Nat × Nat) (d : TypeDesc)
    (hp : tmps.getD p undef = .pointer (some ⟨g, 0, none⟩)) (hg : w.heap[g]? = some (.cells cs t fr))
    (hu : P.underlying ty = some d) (hd : (match d with | .struct _ | .array _ _ => true | _ => false) = true) (hi : (P.info? ty).map (·.size) = some cs.size) :
    (results fn tmps).run P w = .ok (.tuple #[.agg cs, tmps.getD u undef]) w := by
  have hp' : tmps[p]?.getD undef = .pointer (some ⟨g, 0, none⟩) := by simpa using hp
  simp [results, h, hp', asAddr, run_loadVar_row w g t ty cs fr d hg hu hd hi]
set_option maxRecDepth 100000 in
set_option maxHeartbeats 6400000 in
theorem lack_ok (fr tr : Rc) (bt : List Rc) (A : Option Addr) (c : Nat) (w : World) (hbt : RecsAt w (.slice A bt.length c) bt) (h60 : bt.length ≤ 60) (hoks : ∀ r ∈ bt, RcOk r)
    (hf : 0 ≤ fr.seq ∧ fr.seq ≤ 9999) (ht : 0 ≤ tr.seq ∧ tr.seq ≤ 9999) (hfa : 0 ≤ fr.a ∧ fr.a ≤ 10000000) (hta : 0 ≤ tr.a ∧ tr.a ≤ 10000000) (hfb : 0 ≤ fr.b ∧ fr.b ≤ 10000000) (htb : 0 ≤ tr.b ∧ tr.b ≤ 10000000) (hcan : canOf fr bt tr) :
    Calls Tryz.prog 33 #[.agg #[.int .i64 fr.mac, .int .i64 fr.seq, .int .i64 fr.min, .int .u8 fr.kind, .int .i64 fr.a, .int .i64 fr.b, .int .i64 tr.mac, .int .i64 tr.seq, .int .i64 tr.min, .int .u8 tr.kind, .int .i64 tr.a, .int .i64 tr.b, .slice A bt.length c]] w (Gives w (.tuple #[lkV (lackOf fr bt tr), .bool true])) := by
  obtain ⟨N, hN⟩ : ∃ N, bt.length = N := ⟨_, rfl⟩
  have Hbt := Lib.hid hbt
  have Hoks := Lib.hid hoks
  obtain ⟨c1, c2, c3, c4⟩ := hcan
  simp only [lackOf] at c1 c2 c3 c4
  have Hc := Lib.hid (show (0 ≤ tr.a - fr.a - nS bt ∧ tr.a - fr.a - nS bt ≤ tr.seq - fr.seq - 1 - (N : Int)) ∧ 0 ≤ tr.b - fr.b - cS bt ∧ tr.b - fr.b - cS bt ≤ 10000 * (tr.a - fr.a - nS bt) from ⟨⟨c1, by omega⟩, c3, c4⟩)
  rw [hN] at h60 ⊢
  have HN := Lib.hid hN
  clear hN hbt hoks c1 c2 c3 c4
  have hw0 : Below w.heap.size w ((w.alloc (.cells #[.int .i64 fr.mac, .int .i64 fr.seq, .int .i64 fr.min, .int .u8 fr.kind, .int .i64 fr.a, .int .i64 fr.b, .int .i64 tr.mac, .int .i64 tr.seq, .int .i64 tr.min, .int .u8 tr.kind, .int .i64 tr.a, .int .i64 tr.b, .slice A N c] 97)).alloc (.cells #[.int .i64 0, .int .i64 0, .int .i64 0, .int .i64 0, .int .i64 0] 40)) := two_belowT w _ _
  go_enter Tryz.func33, Tryz.ntmps33
  go_upto_region 1 with (fail)
  refine wp_name (fun V => Below w.heap.size w V ∧ V.heap.size = w.heap.size + 1 + 1 ∧ V.heap[w.heap.size]? = some (.cells #[.int .i64 fr.mac, .int .i64 fr.seq, .int .i64 fr.min, .int .u8 fr.kind, .int .i64 fr.a, .int .i64 fr.b, .int .i64 tr.mac, .int .i64 tr.seq, .int .i64 tr.min, .int .u8 tr.kind, .int .i64 tr.a, .int .i64 tr.b, .slice A N c] 97 (0, 0)) ∧ V.heap[w.heap.size + 1]? = some (.cells #[.int .i64 0, .int .i64 0, .int .i64 0, .int .i64 0, .int .i64 0] 40 (0, 0))) ⟨hw0, by simp, (Below.heap_alloc _ _ _ (by simp)).trans (heap_alloc_new w _), heap_alloc2_new w _ _⟩ (fun V hV => ?_)
  obtain ⟨hbV, hsV, g1, g2⟩ := hV
  clear hw0
  have gc := box_cells g1
  have s0 := gc 0
  have s1 := gc 1
  have s2 := gc 2
  have s3 := gc 3
  have s4 := gc 4
  have s5 := gc 5
  have s6 := gc 6
  have s7 := gc 7
  have s8 := gc 8
  have s9 := gc 9
  have s10 := gc 10
  have s11 := gc 11
  have s12 := gc 12
  simp only [List.getElem?_toArray, List.getElem?_cons_zero, List.getElem?_cons_succ] at s0 s1 s2 s3 s4 s5 s6 s7 s8 s9 s10 s11 s12
  clear gc
  go_upto_region 2 with (fail)
  refine wp_name (fun V1 => Below V.heap.size V V1 ∧ V1.heap[V.heap.size]? = some (.cells #[.int .i64 tr.mac, .int .i64 fr.seq, .int .i64 tr.seq, .int .i64 (tr.a - fr.a), .int .i64 (tr.b - fr.b)] 40 (0, 0))) ⟨(Below.refl _ _).alloc (Nat.le_refl _) _, heap_alloc_new V _⟩ (fun V1 hV1 => ?_)
  obtain ⟨hb1, g3⟩ := hV1
  have G1 := Lib.hid ((hb1.block _ (by omega)).trans g1)
  have G2 := Lib.hid ((hb1.block _ (by omega)).trans g2)
  have Hb := Lib.hid (hbV.trans (hb1.mono hbV.size))
  replace s12 := cell_below hb1 s12
  obtain ⟨B1, hB1⟩ : ∃ B1, w.heap.size = B1 := ⟨_, rfl⟩
  obtain ⟨B2, hB2⟩ : ∃ B2, B1 + 1 = B2 := ⟨_, rfl⟩
  obtain ⟨B3, hB3⟩ : ∃ B3, B2 + 1 = B3 := ⟨_, rfl⟩
  rw [hsV] at g3
  rw [hB1] at hsV g3 G1 G2 s12 ⊢
  rw [hB2] at hsV g3 G2 ⊢
  rw [hB3] at hsV g3 ⊢
  have hw1 : w.heap.size ≤ B1 := Nat.le_of_eq hB1
  have hw3 : w.heap.size ≤ B3 := by omega
  have HB1 := Lib.hid hB1
  have HB2 := Lib.hid hB2
  have HB3 := Lib.hid hB3
  have G3 := Lib.hid g3
  clear g1 g2 g3 hb1 hbV hB1 hB2 hB3 hsV s0 s1 s2 s3 s4 s5 s6 s7 s8 s9 s10 s11
  go_wp2
  go_loopw [35] (fun ix wr => ∃ k : Nat, k ≤ N ∧ ix = .int .i64 (k : Int) ∧ Below w.heap.size w wr ∧ wr.heap[B1]? = some (.cells #[.int .i64 fr.mac, .int .i64 fr.seq, .int .i64 fr.min, .int .u8 fr.kind, .int .i64 fr.a, .int .i64 fr.b, .int .i64 tr.mac, .int .i64 tr.seq, .int .i64 tr.min, .int .u8 tr.kind, .int .i64 tr.a, .int .i64 tr.b, .slice A N c] 97 (0, 0)) ∧ wr.heap[B2]? = some (.cells #[.int .i64 0, .int .i64 0, .int .i64 0, .int .i64 0, .int .i64 0] 40 (0, 0)) ∧ wr.heap[B3]? = some (.cells #[.int .i64 tr.mac, .int .i64 fr.seq, .int .i64 tr.seq, .int .i64 (tr.a - fr.a - nS (bt.take k)), .int .i64 (tr.b - fr.b - cS (bt.take k))] 40 (0, 0))) (fun ix wr => N - (intOf ix).toNat)
  case atStart => exact ⟨0, by omega, rfl, Hb.out, G1.out, G2.out, by have h := G3.out; simpa [nS, cS] using h⟩
  case round =>
    obtain ⟨k, hk, rfl, hbr, h1, h2, h3⟩ := hrel
    obtain ⟨wr0, rfl⟩ : ∃ wo : World, wo = wr := ⟨_, rfl⟩
    have Hbr := Lib.hid hbr
    have H1 := Lib.hid h1
    have H2 := Lib.hid h2
    have H3 := Lib.hid h3
    have hsr : B3 < wr0.heap.size := (Array.getElem?_eq_some_iff.1 h3).1
    clear hbr h1 h2 h3
    by_cases hkN : k < N
    · obtain ⟨b4, o4, r, e, hr, x0, x1, x2, x3, x4, x5, _⟩ := (Hbt.out.below Hbr.out).at_ (k := k) (by rw [HN.out]; exact hkN)
      subst e
      have hokr := Hoks.out r (List.mem_of_getElem? hr)
      have htk : bt.take (k + 1) = bt.take k ++ [r] := by rw [List.take_add_one, hr]; rfl
      have Htk := Lib.hid htk
      have b1 := nS_bd (bt.take k)
      have b2 := cS_bd (bt.take k) (fun q hq => Hoks.out q (List.mem_of_mem_take hq))
      have b3 : (bt.take k).length ≤ 60 := by rw [List.length_take]; omega
      have Hbs := Lib.hid (And.intro b1 b2)
      have p0 : (k : Int) < (N : Int) := by omega
      clear hr htk
      go_upto_region 5 with (fail)
      refine wp_name (fun V => Below wr0.heap.size wr0 V ∧ V.heap[wr0.heap.size]? = some (.cells #[.int .i64 r.mac, .int .i64 r.seq, .int .i64 r.min, .int .u8 r.kind, .int .i64 r.a, .int .i64 r.b] 89 (0, 0))) ⟨(Below.refl _ _).alloc (Nat.le_refl _) _, heap_alloc_new wr0 _⟩ (fun V hV => ?_)
      obtain ⟨hbV, hXV⟩ := hV
      clear x0 x1 x2 x3 x4 x5
      obtain ⟨XB, hXB⟩ : ∃ XB, wr0.heap.size = XB := ⟨_, rfl⟩
      have hX3 : XB ≠ B3 := by omega
      have hX3' : B3 ≠ XB := by omega
      have K1 := Lib.hid ((hbV.block B1 (by have := (Array.getElem?_eq_some_iff.1 H1.out).1; omega)).trans H1.out)
      have K2 := Lib.hid ((hbV.block B2 (by have := (Array.getElem?_eq_some_iff.1 H2.out).1; omega)).trans H2.out)
      have K3 := Lib.hid ((hbV.block B3 hsr).trans H3.out)
      have HbV := Lib.hid (Hbr.out.trans (hbV.mono Hbr.out.size))
      rw [hXB] at hXV ⊢
      have qx := box_cells hXV
      have x3 := qx 3
      have x5 := qx 5
      have gc := box_cells K3.out
      have y3 := gc 3
      have y4 := gc 4
      have gf := box_frozen K3.out
      simp only [List.getElem?_toArray, List.getElem?_cons_zero, List.getElem?_cons_succ] at x3 x5 y3 y4
      obtain ⟨sa, hsa⟩ : ∃ sa, nS (bt.take k) = sa := ⟨_, rfl⟩
      obtain ⟨co, hco⟩ : ∃ co, cS (bt.take k) = co := ⟨_, rfl⟩
      rw [hsa] at y3 b1
      rw [hco] at y4 b2
      have Hsa := Lib.hid hsa
      have Hco := Lib.hid hco
      clear qx gc hXV hXB hbV hsa hco
      by_cases k0 : r.kind = 0
      · have k0b : (r.kind == 0) = true := by simpa using k0
        have hbb : 0 ≤ r.b ∧ r.b ≤ 10000 := by rcases hokr.kind with h | h | h <;> omega
        have K0 := Lib.hid k0
        clear k0
        go_wp2
        go_roundw
        case rel =>
          refine ⟨k + 1, by omega, by go_num, (HbV.out.setCell (p := ⟨B3, 3, none⟩) hw3 _).setCell (p := ⟨B3, 4, none⟩) hw3 _, ?_, ?_, ?_⟩
          · exact blk_other (blk_other K1.out (by have := HB2.out; have := HB3.out; omega) _) (by have := HB2.out; have := HB3.out; omega) _
          · exact blk_other (blk_other K2.out (by have := HB3.out; omega) _) (by have := HB3.out; omega) _
          · have h := blk_set (blk_set K3.out (o := 3) (.int .i64 (tr.a - fr.a - sa - 1))) (o := 4) (.int .i64 (tr.b - fr.b - co - r.b))
            simp only [List.setIfInBounds_toArray, List.set_cons_succ, List.set_cons_zero] at h
            rw [Htk.out, nS_snoc, cS_snoc, if_pos K0.out, if_pos K0.out, Hsa.out, Hco.out, show tr.a - fr.a - (sa + 1) = tr.a - fr.a - sa - 1 by omega, show tr.b - fr.b - (co + r.b) = tr.b - fr.b - co - r.b by omega]
            exact h
        case measure => simp [intOf]; omega
      · have k0b : (r.kind == 0) = false := by simpa using k0
        have K0 := Lib.hid k0
        clear k0
        go_wp2
        go_roundw
        case rel =>
          refine ⟨k + 1, by omega, by go_num, HbV.out, K1.out, K2.out, ?_⟩
          rw [Htk.out, nS_snoc, cS_snoc, if_neg K0.out, if_neg K0.out, Int.add_zero, Int.add_zero]
          exact K3.out
        case measure => simp [intOf]; omega
    · obtain rfl : k = N := by omega
      have h3 := H3.out
      rw [List.take_of_length_le (by rw [HN.out]; exact Nat.le_refl _)] at h3
      obtain ⟨sa, hsa⟩ : ∃ sa, tr.a - fr.a - nS bt = sa := ⟨_, rfl⟩
      obtain ⟨co, hco⟩ : ∃ co, tr.b - fr.b - cS bt = co := ⟨_, rfl⟩
      have hcc := Hc.out
      rw [hsa, hco] at hcc h3
      obtain ⟨⟨c1, c2⟩, c3, c4⟩ := hcc
      have H3' := Lib.hid h3
      have Hsa := Lib.hid hsa
      have Hco := Lib.hid hco
      have i0 := inB_iff.2 (And.intro c1 c2)
      have i1 := inB_iff.2 (And.intro c3 c4)
      have gc := box_cells H1.out
      have s0 := gc 0
      have s1 := gc 1
      have s2 := gc 2
      have s3 := gc 3
      have s4 := gc 4
      have s5 := gc 5
      have s6 := gc 6
      have s7 := gc 7
      have s8 := gc 8
      have s9 := gc 9
      have s10 := gc 10
      have s11 := gc 11
      have s12 := gc 12
      simp only [List.getElem?_toArray, List.getElem?_cons_zero, List.getElem?_cons_succ] at s0 s1 s2 s3 s4 s5 s6 s7 s8 s9 s10 s11 s12
      clear gc hsa hco h3
      go_upto_region 10 with (fail)
      clear s0 s1 s2 s3 s4 s5 s6 s7 s8 s9 s10 s11 s12
      refine wp_region_noPanic ?_
      refine wp_region_ph [([0, 1, 2, 3], [4, 5]), ([6, 7, 8, 9, 10], [11]), ([12], [13, 14])] (fun _ => true) (fun W' => Below w.heap.size w W' ∧ W'.heap[B3]? = some (.cells #[.int .i64 tr.mac, .int .i64 fr.seq, .int .i64 tr.seq, .int .i64 sa, .int .i64 co] 40 (0, 0))) (by kernel_rfl) (by kernel_rfl) (fun _ _ _ _ _ h => h) ?_
      have hs0 : Below w.heap.size w wr0.drew ∧ wr0.drew.heap[B3]? = some (.cells #[.int .i64 tr.mac, .int .i64 fr.seq, .int .i64 tr.seq, .int .i64 sa, .int .i64 co] 40 (0, 0)) := ⟨Hbr.out.drew, H3'.out⟩
      have hR := show wr0.drew.heap[B2]? = some (.cells #[.int .i64 0, .int .i64 0, .int .i64 0, .int .i64 0, .int .i64 0] 40 (0, 0)) from H2.out
      obtain ⟨w2, hwe⟩ : ∃ V, V = wr0.drew := ⟨_, rfl⟩
      rw [← hwe] at hs0 hR ⊢
      clear hwe
      refine wpPh_cons hs0 (fun hne => ?_)
      have n0 := fun x : Meets (fun W' => Below w.heap.size w W' ∧ W'.heap[B3]? = some (.cells #[.int .i64 tr.mac, .int .i64 fr.seq, .int .i64 tr.seq, .int .i64 sa, .int .i64 co] 40 (0, 0))) => box_cells x.property.2 0
      have n1 := fun x : Meets (fun W' => Below w.heap.size w W' ∧ W'.heap[B3]? = some (.cells #[.int .i64 tr.mac, .int .i64 fr.seq, .int .i64 tr.seq, .int .i64 sa, .int .i64 co] 40 (0, 0))) => box_cells x.property.2 1
      have n2 := fun x : Meets (fun W' => Below w.heap.size w W' ∧ W'.heap[B3]? = some (.cells #[.int .i64 tr.mac, .int .i64 fr.seq, .int .i64 tr.seq, .int .i64 sa, .int .i64 co] 40 (0, 0))) => box_cells x.property.2 2
      have n3 := fun x : Meets (fun W' => Below w.heap.size w W' ∧ W'.heap[B3]? = some (.cells #[.int .i64 tr.mac, .int .i64 fr.seq, .int .i64 tr.seq, .int .i64 sa, .int .i64 co] 40 (0, 0))) => box_cells x.property.2 3
      have n4 := fun x : Meets (fun W' => Below w.heap.size w W' ∧ W'.heap[B3]? = some (.cells #[.int .i64 tr.mac, .int .i64 fr.seq, .int .i64 tr.seq, .int .i64 sa, .int .i64 co] 40 (0, 0))) => box_cells x.property.2 4
      simp only [List.getElem?_toArray, List.getElem?_cons_zero, List.getElem?_cons_succ] at n0 n1 n2 n3 n4
      simp only [pick, pickN, List.filterMap_cons, List.filterMap_nil, List.getElem?_cons_zero, List.getElem?_cons_succ, Option.map_some]
      repeat (change wpQuiet _ _ _ _ (_ :: _) _; go_big_quiet_step (fail))
      refine wpQuiet_nil ?_
      clear n0 n1 n2 n3 n4 hne
      refine wpSeqK_step (fun K hK => ?_)
      go_simp
      refine (Same.to i0 (withinH_same _ _ _ _)).mono ?_
      rintro e w9 ⟨rfl, rfl⟩
      refine hK.out _ _ (fun _ => hs0) ?_
      clear hK K
      refine wpSeqK_step (fun K hK => ?_)
      go_simp
      refine hK.out _ _ (fun _ => hs0) ?_
      clear hK K
      refine wpSeqK_nil ?_
      refine wpPh_cons hs0 (fun hne => ?_)
      have n0 := fun x : Meets (fun W' => Below w.heap.size w W' ∧ W'.heap[B3]? = some (.cells #[.int .i64 tr.mac, .int .i64 fr.seq, .int .i64 tr.seq, .int .i64 sa, .int .i64 co] 40 (0, 0))) => box_cells x.property.2 0
      have n1 := fun x : Meets (fun W' => Below w.heap.size w W' ∧ W'.heap[B3]? = some (.cells #[.int .i64 tr.mac, .int .i64 fr.seq, .int .i64 tr.seq, .int .i64 sa, .int .i64 co] 40 (0, 0))) => box_cells x.property.2 1
      have n2 := fun x : Meets (fun W' => Below w.heap.size w W' ∧ W'.heap[B3]? = some (.cells #[.int .i64 tr.mac, .int .i64 fr.seq, .int .i64 tr.seq, .int .i64 sa, .int .i64 co] 40 (0, 0))) => box_cells x.property.2 2
      have n3 := fun x : Meets (fun W' => Below w.heap.size w W' ∧ W'.heap[B3]? = some (.cells #[.int .i64 tr.mac, .int .i64 fr.seq, .int .i64 tr.seq, .int .i64 sa, .int .i64 co] 40 (0, 0))) => box_cells x.property.2 3
      have n4 := fun x : Meets (fun W' => Below w.heap.size w W' ∧ W'.heap[B3]? = some (.cells #[.int .i64 tr.mac, .int .i64 fr.seq, .int .i64 tr.seq, .int .i64 sa, .int .i64 co] 40 (0, 0))) => box_cells x.property.2 4
      simp only [List.getElem?_toArray, List.getElem?_cons_zero, List.getElem?_cons_succ] at n0 n1 n2 n3 n4
      simp only [pick, pickN, List.filterMap_cons, List.filterMap_nil, List.getElem?_cons_zero, List.getElem?_cons_succ, Option.map_some]
      repeat (change wpQuiet _ _ _ _ (_ :: _) _; go_big_quiet_step (fail))
      refine wpQuiet_nil ?_
      clear n0 n1 n2 n3 n4 hne
      refine wpSeqK_step (fun K hK => ?_)
      go_simp
      refine (Same.to i1 (withinH_same _ _ _ _)).mono ?_
      rintro e w9 ⟨rfl, rfl⟩
      refine hK.out _ _ (fun _ => hs0) ?_
      clear hK K
      refine wpSeqK_nil ?_
      refine wpPh_cons hs0 (fun hne => ?_)
      simp only [pick, pickN, List.filterMap_cons, List.filterMap_nil, List.getElem?_cons_zero, List.getElem?_cons_succ, Option.map_some]
      repeat (change wpQuiet _ _ _ _ (_ :: _) _; go_big_quiet_step (fail))
      refine wpQuiet_nil ?_
      clear hne

      have h23 : B2 ≠ B3 := by have := HB3.out; omega
      have rf := box_frozen hR
      have rc := box_cells hR
      have r0 := rc 0
      have r1 := rc 1
      have r2 := rc 2
      have r3 := rc 3
      have r4 := rc 4
      simp only [List.getElem?_toArray, List.getElem?_cons_zero, List.getElem?_cons_succ] at r0 r1 r2 r3 r4
      clear rc
      refine wpSeqK_step (fun K hK => ?_)
      go_simp
      have hgB : w.heap.size ≤ B2 := by have := HB2.out; omega
      have hb5 := ((((hs0.1.setCell (p := ⟨B2, 0, none⟩) hgB (.int .i64 tr.mac)).setCell (p := ⟨B2, 1, none⟩) hgB (.int .i64 fr.seq)).setCell (p := ⟨B2, 2, none⟩) hgB (.int .i64 tr.seq)).setCell (p := ⟨B2, 3, none⟩) hgB (.int .i64 sa)).setCell (p := ⟨B2, 4, none⟩) hgB (.int .i64 co)
      have hr5 := blk_set (blk_set (blk_set (blk_set (blk_set hR (o := 0) (.int .i64 tr.mac)) (o := 1) (.int .i64 fr.seq)) (o := 2) (.int .i64 tr.seq)) (o := 3) (.int .i64 sa)) (o := 4) (.int .i64 co)
      simp only [List.setIfInBounds_toArray, List.set_cons_succ, List.set_cons_zero] at hr5
      have hl5 := blk_other (blk_other (blk_other (blk_other (blk_other hs0.2 h23.symm (.int .i64 tr.mac) (o := 0)) h23.symm (.int .i64 fr.seq) (o := 1)) h23.symm (.int .i64 tr.seq) (o := 2)) h23.symm (.int .i64 sa) (o := 3)) h23.symm (.int .i64 co) (o := 4)
      refine hK.out _ _ (fun _ => ⟨hb5, hl5⟩) ?_
      clear hK K rf r0 r1 r2 r3 r4 hR
      obtain ⟨W5, hW5⟩ : ∃ W5, W5 = ((((w2.setCell ⟨B2, 0, none⟩ (.int .i64 tr.mac)).setCell ⟨B2, 1, none⟩ (.int .i64 fr.seq)).setCell ⟨B2, 2, none⟩ (.int .i64 tr.seq)).setCell ⟨B2, 3, none⟩ (.int .i64 sa)).setCell ⟨B2, 4, none⟩ (.int .i64 co) := ⟨_, rfl⟩
      rw [← hW5] at hb5 hr5 hl5 ⊢
      clear hW5
      refine wpSeqK_step (fun K hK => ?_)
      go_simp
      refine hK.out _ _ (fun _ => ⟨hb5, hl5⟩) ?_
      clear hK K
      refine wpSeqK_nil ?_
      refine wpPh_nil ?_
      refine NoPanic.normal ?_
      have rc := box_cells hr5
      have r0 := rc 0
      have r1 := rc 1
      have r2 := rc 2
      have r3 := rc 3
      have r4 := rc 4
      simp only [List.getElem?_toArray, List.getElem?_cons_zero, List.getElem?_cons_succ] at r0 r1 r2 r3 r4
      go_wp2
      refine bodyPost_ret (v := .tuple #[lkV (lackOf fr bt tr), .bool true]) ?_ rfl ⟨rfl, hb5⟩
      refine (results_cell_tmp2 rfl _ _ B2 40 _ (0, 0) _ rfl hr5 rfl rfl (by kernel_rfl)).trans ?_
      simp only [lkV, lackOf, Hsa.out, Hco.out]
      rfl
end Go.Proofs.YtckgapeednokjaaGreat
