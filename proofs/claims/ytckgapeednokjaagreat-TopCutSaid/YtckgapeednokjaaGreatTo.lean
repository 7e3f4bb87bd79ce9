import Derived.Test.YtckgapeednokjaaGreatTn
set_option linter.unusedVariables false
set_option linter.unusedSimpArgs false
namespace Go.Proofs.YtckgapeednokjaaGreat
open Go Go.Proofs Go.RowKit

/-! ### run: match -/
theorem set_twelve {tr : List Bool} (h : tr.length = 12) : (((((((((((tr.set 0 false).set 1 false).set 2 false).set 3 false).set 4 false).set 5 false).set 6 false).set 7 false).set 8 false).set 9 false).set 10 false).set 11 false = List.replicate 12 false := by
  match tr, h with
  | [a, b, c, d, e, f, g, i, j, k, l, m], _ => rfl
def GivesMatch (t : Tab) (N : Nat) (w : World) (e : Ending) (w' : World) : Prop := ∃ (MB nb bb O : Nat) (u z : Value) (nx bf : List Int), e = .returned (.pointer (some ⟨MB, 0, none⟩)) ∧ w'.heap[MB]? = some (.cells #[.int .i64 t.places, .int .i64 t.lay, u, z, .slice (some ⟨O, 0, none⟩) N N, .slice (some ⟨nb, 0, none⟩) N N, .slice (some ⟨bb, 0, none⟩) N N] 127 (0, 0)) ∧
  w'.heap[nb]? = some (.cells (nx.map (Value.int .i64)).toArray 3 (0, 0)) ∧ w'.heap[bb]? = some (.cells (bf.map (Value.int .i64)).toArray 3 (0, 0)) ∧ Inv N (May t) nx bf ∧ Below w.heap.size w w'
set_option maxRecDepth 100000 in
set_option maxHeartbeats 60000000 in
theorem match_any (t : Tab) (u z : Value) (w : World) (hT : TabAt w u z t) (ht : TabOk t) : Calls Tryz.prog 47 #[.agg #[.int .i64 t.places, .int .i64 t.lay, u, z], .agg #[.bool true, .bool true, .bool true, .bool true, .bool true, .bool true, .bool true, .bool true, .bool true, .bool true, .bool true, .bool true]] w (GivesMatch t t.trips.length w) := by
  obtain ⟨A1, c1, rfl, _, _⟩ := hT.rows.form
  obtain ⟨A2, c2, rfl, _, _⟩ := hT.trips.form
  have HT := Lib.hid hT
  have Ht := Lib.hid ht
  have h12 := ht.trips
  obtain ⟨N, hN⟩ : ∃ N, t.trips.length = N := ⟨_, rfl⟩
  have HN := Lib.hid hN
  have HFol := Lib.hid (fun (V : World) (h : Below w.heap.size w V) => follows_any t _ _ V (hT.below h) ht)
  have HRep := Lib.hid (fun (b : Nat) (V : World) (h : V.heap[b]? = some (.cells #[.int .i64 (-1)] 3 (0, 0))) => Repeat_one b N V (box_cells h 0) (by omega))
  rw [hN] at h12 HFol ⊢
  clear hT ht hN
  go_enter Tryz.func47, Tryz.ntmps47
  go_upto_region 1 with (fail)
  refine wp_name (fun W => Below w.heap.size w W ∧ w.heap.size + 1 < W.heap.size ∧ W.heap[w.heap.size]? = some (.cells #[.int .i64 t.places, .int .i64 t.lay, .slice A1 t.empty.length c1, .slice A2 N c2] 58 (0, 0)) ∧ W.heap[w.heap.size + 1]? = some (.cells #[.bool true, .bool true, .bool true, .bool true, .bool true, .bool true, .bool true, .bool true, .bool true, .bool true, .bool true, .bool true] 124 (0, 0))) ⟨two_belowT w _ _, by simp, (Below.heap_alloc _ _ _ (by simp)).trans (heap_alloc_new w _), heap_alloc2_new w _ _⟩ (fun w1 hW => ?_)
  obtain ⟨hw1, hsz1, g0, g1⟩ := hW
  have G0 := Lib.hid g0
  have G1 := Lib.hid g1
  have Hw1 := Lib.hid hw1
  clear g0 g1 hw1
  go_cut [5] from 9 to 23 (fun zv wx => ∃ Mv MB O nb bb us, zv = .pointer (some ⟨Mv, 0, none⟩) ∧ Laid0 w1 wx t (.slice A1 t.empty.length c1) (.slice A2 N c2) N Mv MB O nb bb us)
  case first =>
    have gc := box_cells G0.out
    refine wp_region_noPanic ?_
    refine wp_region_pickA [0, 1, 4, 5, 6, 9, 10, 11] 9 (fun _ => true) (fun w' => Below w1.heap.size w1 w') (by kernel_rfl) (by kernel_rfl) (fun _ _ _ _ _ h => h) (Below.refl _ _).drew (fun hne => ?_)
    have n0 := fun q : Meets (fun w' => Below w1.heap.size w1 w') => cell_below q.property (gc 0)
    have n1 := fun q : Meets (fun w' => Below w1.heap.size w1 w') => cell_below q.property (gc 1)
    have n2 := fun q : Meets (fun w' => Below w1.heap.size w1 w') => cell_below q.property (gc 2)
    have n3 := fun q : Meets (fun w' => Below w1.heap.size w1 w') => cell_below q.property (gc 3)
    simp only [pick, pickN, List.filterMap_cons, List.filterMap_nil, List.getElem?_cons_zero, List.getElem?_cons_succ, Option.map_some]
    repeat (change wpQuiet _ _ _ _ (_ :: _) _; go_big_quiet_step (fail))
    refine wpQuiet_nil ?_
    clear n0 n1 n2 n3 hne gc
    have B0 := Lib.hid (show Below w1.heap.size w1 w1.drew from (Below.refl _ _).drew)
    obtain ⟨v0, hv0⟩ : ∃ V, V = w1.drew := ⟨_, rfl⟩
    rw [← hv0] at B0 ⊢
    clear hv0
    generalize hG : wpAnyF _ _ _ _ _ _ = G
    have ndcdhimnop : ∀ (V : World) (B : Hid (Below w1.heap.size w1 V)) (O : Nat) (us : List Value) (F0 : Nat) (F1 : Nat) (hF : Hid (FolAt V t N O F0 F1 us)) (aF : w1.heap.size ≤ F0) (P1 : Nat) (nb : Nat) (kN : Hid (V.heap[nb]? = some (.cells ((List.replicate N (-1 : Int)).map (Value.int .i64)).toArray 3 (0, 0)))) (n1 : F1 ≤ nb) (n2 : nb < V.heap.size) (P2 : Nat) (bb : Nat) (kB : Hid (V.heap[bb]? = some (.cells ((List.replicate N (-1 : Int)).map (Value.int .i64)).toArray 3 (0, 0)))) (b1 : nb < bb) (b2 : bb < V.heap.size) (MB : Nat) (kM : Hid (V.heap[MB]? = some (.cells #[.int .i64 t.places, .int .i64 t.lay, .slice A1 t.empty.length c1, .slice A2 N c2, .slice (some ⟨O, 0, none⟩) N N, .slice (some ⟨nb, 0, none⟩) N N, .slice (some ⟨bb, 0, none⟩) N N] 127 (0, 0)))) (m1 : bb < MB) (m2 : MB < V.heap.size) (Mv : Nat) (kV : Hid (V.heap[Mv]? = some (.cells #[.pointer none] 121 (0, 0)))) (v1 : w1.heap.size ≤ Mv) (v2 : Mv < V.heap.size) (v3 : Mv < F0 ∨ F1 ≤ Mv) (v4 : Mv ≠ nb) (v5 : Mv ≠ bb) (v6 : Mv ≠ MB), G 1 #[true, true, true, true, true, true, true, true, true, true, true, true, true, true, true, true, false] { tmps := #[.agg #[.int .i64 t.places, .int .i64 t.lay, .slice A1 t.empty.length c1, .slice A2 N c2], .agg #[.bool true, .bool true, .bool true, .bool true, .bool true, .bool true, .bool true, .bool true, .bool true, .bool true, .bool true, .bool true], .pointer (some ⟨w.heap.size, 0, none⟩), .pointer (some ⟨w.heap.size + 1, 0, none⟩), .pointer none, .pointer (some ⟨Mv, 0, none⟩), undef, undef, undef, .agg #[.int .i64 t.places, .int .i64 t.lay, .slice A1 t.empty.length c1, .slice A2 N c2], .agg #[.int .i64 t.places, .int .i64 t.lay, .slice A1 t.empty.length c1, .slice A2 N c2], .slice (some ⟨O, 0, none⟩) N N, .slice (some ⟨P1, 0, none⟩) 1 1, .pointer (some ⟨w.heap.size, 3, none⟩), .slice A2 N c2, .int .i64 (N : Int), .slice (some ⟨nb, 0, none⟩) N N, .slice (some ⟨P2, 0, none⟩) 1 1, .pointer (some ⟨w.heap.size, 3, none⟩), .slice A2 N c2, .int .i64 (N : Int), .slice (some ⟨bb, 0, none⟩) N N, .agg #[.int .i64 t.places, .int .i64 t.lay, .slice A1 t.empty.length c1, .slice A2 N c2, .slice (some ⟨O, 0, none⟩) N N, .slice (some ⟨nb, 0, none⟩) N N, .slice (some ⟨bb, 0, none⟩) N N], .pointer (some ⟨MB, 0, none⟩), undef, undef, undef, undef, undef, undef, undef, undef, undef, undef, undef, undef, undef, undef, undef, undef], defers := [] } V := by
      intro V B O us F0 F1 hF aF P1 nb kN n1 n2 P2 bb kB b1 b2 MB kM m1 m2 Mv kV v1 v2 v3 v4 v5 v6
      rw [← hG]
      have s1 := B.out.size
      refine wpAnyF_one (i := 16) (by kernel_rfl) rfl (fun K hK => ?_)
      have gf := box_frozen kV.out
      have gq := box_cells kV.out
      go_simp
      have hL := laid_of B.out kV.out kM.out kN.out kB.out hF.out (by omega) (by omega) (by omega) (by omega) (by omega) (by omega) (by omega) (by omega) (by omega)
      refine hK.out _ _ (fun _ => hL.bel) (wpAnyF_done (by kernel_rfl) (NoPanic.normal ?_) _)
      clear hK K gf gq
      go_wp2_with fail
      go_meet
      exact ⟨Mv, MB, O, nb, bb, us, rfl, hL⟩
    have ndcdhimno : ∀ (V : World) (B : Hid (Below w1.heap.size w1 V)) (O : Nat) (us : List Value) (F0 : Nat) (F1 : Nat) (hF : Hid (FolAt V t N O F0 F1 us)) (aF : w1.heap.size ≤ F0) (P1 : Nat) (nb : Nat) (kN : Hid (V.heap[nb]? = some (.cells ((List.replicate N (-1 : Int)).map (Value.int .i64)).toArray 3 (0, 0)))) (n1 : F1 ≤ nb) (n2 : nb < V.heap.size) (P2 : Nat) (bb : Nat) (kB : Hid (V.heap[bb]? = some (.cells ((List.replicate N (-1 : Int)).map (Value.int .i64)).toArray 3 (0, 0)))) (b1 : nb < bb) (b2 : bb < V.heap.size) (MB : Nat) (kM : Hid (V.heap[MB]? = some (.cells #[.int .i64 t.places, .int .i64 t.lay, .slice A1 t.empty.length c1, .slice A2 N c2, .slice (some ⟨O, 0, none⟩) N N, .slice (some ⟨nb, 0, none⟩) N N, .slice (some ⟨bb, 0, none⟩) N N] 127 (0, 0)))) (m1 : bb < MB) (m2 : MB < V.heap.size), G 2 #[true, true, true, true, true, true, true, true, true, true, true, true, true, true, true, false, false] { tmps := #[.agg #[.int .i64 t.places, .int .i64 t.lay, .slice A1 t.empty.length c1, .slice A2 N c2], .agg #[.bool true, .bool true, .bool true, .bool true, .bool true, .bool true, .bool true, .bool true, .bool true, .bool true, .bool true, .bool true], .pointer (some ⟨w.heap.size, 0, none⟩), .pointer (some ⟨w.heap.size + 1, 0, none⟩), .pointer none, undef, undef, undef, undef, .agg #[.int .i64 t.places, .int .i64 t.lay, .slice A1 t.empty.length c1, .slice A2 N c2], .agg #[.int .i64 t.places, .int .i64 t.lay, .slice A1 t.empty.length c1, .slice A2 N c2], .slice (some ⟨O, 0, none⟩) N N, .slice (some ⟨P1, 0, none⟩) 1 1, .pointer (some ⟨w.heap.size, 3, none⟩), .slice A2 N c2, .int .i64 (N : Int), .slice (some ⟨nb, 0, none⟩) N N, .slice (some ⟨P2, 0, none⟩) 1 1, .pointer (some ⟨w.heap.size, 3, none⟩), .slice A2 N c2, .int .i64 (N : Int), .slice (some ⟨bb, 0, none⟩) N N, .agg #[.int .i64 t.places, .int .i64 t.lay, .slice A1 t.empty.length c1, .slice A2 N c2, .slice (some ⟨O, 0, none⟩) N N, .slice (some ⟨nb, 0, none⟩) N N, .slice (some ⟨bb, 0, none⟩) N N], .pointer (some ⟨MB, 0, none⟩), undef, undef, undef, undef, undef, undef, undef, undef, undef, undef, undef, undef, undef, undef, undef, undef], defers := [] } V := by
      intro V B O us F0 F1 hF aF P1 nb kN n1 n2 P2 bb kB b1 b2 MB kM m1 m2
      rw [← hG]
      have s1 := B.out.size
      refine wpAnyF_one (i := 15) (by kernel_rfl) rfl (fun K hK => ?_)
      · skip
        go_simp
        refine hK.out _ _ (fun _ => B.out.alloc B.out.size _) (wpAnyF_alloc (V := V) (fun V2 s2 hb k => ?_))
        clear hK K
        obtain ⟨Mv, lMv, mMv, e⟩ := name_it V
        rw [e] at k ⊢
        have kV := Lib.hid k
        have hs1 := hF.out.s1
        rw [hG]
        exact ndcdhimnop V2 (Lib.hid (B.out.trans (hb.mono B.out.size))) O us F0 F1 (Lib.hid (hF.out.below hb)) (by omega) P1 nb (Lib.hid (box_stepR hb kN.out)) (by omega) (by omega) P2 bb (Lib.hid (box_stepR hb kB.out)) (by omega) (by omega) MB (Lib.hid (box_stepR hb kM.out)) (by omega) (by omega) Mv kV (by omega) (by omega) (by omega) (by omega) (by omega) (by omega)
    have ndcdhimnp : ∀ (V : World) (B : Hid (Below w1.heap.size w1 V)) (O : Nat) (us : List Value) (F0 : Nat) (F1 : Nat) (hF : Hid (FolAt V t N O F0 F1 us)) (aF : w1.heap.size ≤ F0) (P1 : Nat) (nb : Nat) (kN : Hid (V.heap[nb]? = some (.cells ((List.replicate N (-1 : Int)).map (Value.int .i64)).toArray 3 (0, 0)))) (n1 : F1 ≤ nb) (n2 : nb < V.heap.size) (P2 : Nat) (bb : Nat) (kB : Hid (V.heap[bb]? = some (.cells ((List.replicate N (-1 : Int)).map (Value.int .i64)).toArray 3 (0, 0)))) (b1 : nb < bb) (b2 : bb < V.heap.size) (Mv : Nat) (kV : Hid (V.heap[Mv]? = some (.cells #[.pointer none] 121 (0, 0)))) (v1 : w1.heap.size ≤ Mv) (v2 : Mv < V.heap.size) (v3 : Mv < F0 ∨ F1 ≤ Mv) (v4 : Mv ≠ nb) (v5 : Mv ≠ bb), G 2 #[true, true, true, true, true, true, true, true, true, true, true, true, true, true, false, true, false] { tmps := #[.agg #[.int .i64 t.places, .int .i64 t.lay, .slice A1 t.empty.length c1, .slice A2 N c2], .agg #[.bool true, .bool true, .bool true, .bool true, .bool true, .bool true, .bool true, .bool true, .bool true, .bool true, .bool true, .bool true], .pointer (some ⟨w.heap.size, 0, none⟩), .pointer (some ⟨w.heap.size + 1, 0, none⟩), .pointer none, .pointer (some ⟨Mv, 0, none⟩), undef, undef, undef, .agg #[.int .i64 t.places, .int .i64 t.lay, .slice A1 t.empty.length c1, .slice A2 N c2], .agg #[.int .i64 t.places, .int .i64 t.lay, .slice A1 t.empty.length c1, .slice A2 N c2], .slice (some ⟨O, 0, none⟩) N N, .slice (some ⟨P1, 0, none⟩) 1 1, .pointer (some ⟨w.heap.size, 3, none⟩), .slice A2 N c2, .int .i64 (N : Int), .slice (some ⟨nb, 0, none⟩) N N, .slice (some ⟨P2, 0, none⟩) 1 1, .pointer (some ⟨w.heap.size, 3, none⟩), .slice A2 N c2, .int .i64 (N : Int), .slice (some ⟨bb, 0, none⟩) N N, .agg #[.int .i64 t.places, .int .i64 t.lay, .slice A1 t.empty.length c1, .slice A2 N c2, .slice (some ⟨O, 0, none⟩) N N, .slice (some ⟨nb, 0, none⟩) N N, .slice (some ⟨bb, 0, none⟩) N N], undef, undef, undef, undef, undef, undef, undef, undef, undef, undef, undef, undef, undef, undef, undef, undef, undef], defers := [] } V := by
      intro V B O us F0 F1 hF aF P1 nb kN n1 n2 P2 bb kB b1 b2 Mv kV v1 v2 v3 v4 v5
      rw [← hG]
      have s1 := B.out.size
      refine wpAnyF_one (i := 14) (by kernel_rfl) rfl (fun K hK => ?_)
      · skip
        go_simp
        refine hK.out _ _ (fun _ => B.out.alloc B.out.size _) (wpAnyF_alloc (V := V) (fun V2 s2 hb k => ?_))
        clear hK K
        obtain ⟨MB, lMB, mMB, e⟩ := name_it V
        rw [e] at k ⊢
        have kM := Lib.hid k
        have hs1 := hF.out.s1
        rw [hG]
        exact ndcdhimnop V2 (Lib.hid (B.out.trans (hb.mono B.out.size))) O us F0 F1 (Lib.hid (hF.out.below hb)) (by omega) P1 nb (Lib.hid (box_stepR hb kN.out)) (by omega) (by omega) P2 bb (Lib.hid (box_stepR hb kB.out)) (by omega) (by omega) MB kM (by omega) (by omega) Mv (Lib.hid (box_stepR hb kV.out)) (by omega) (by omega) (by omega) (by omega) (by omega) (by omega)
    have ndcdhimn : ∀ (V : World) (B : Hid (Below w1.heap.size w1 V)) (O : Nat) (us : List Value) (F0 : Nat) (F1 : Nat) (hF : Hid (FolAt V t N O F0 F1 us)) (aF : w1.heap.size ≤ F0) (P1 : Nat) (nb : Nat) (kN : Hid (V.heap[nb]? = some (.cells ((List.replicate N (-1 : Int)).map (Value.int .i64)).toArray 3 (0, 0)))) (n1 : F1 ≤ nb) (n2 : nb < V.heap.size) (P2 : Nat) (bb : Nat) (kB : Hid (V.heap[bb]? = some (.cells ((List.replicate N (-1 : Int)).map (Value.int .i64)).toArray 3 (0, 0)))) (b1 : nb < bb) (b2 : bb < V.heap.size), G 3 #[true, true, true, true, true, true, true, true, true, true, true, true, true, true, false, false, false] { tmps := #[.agg #[.int .i64 t.places, .int .i64 t.lay, .slice A1 t.empty.length c1, .slice A2 N c2], .agg #[.bool true, .bool true, .bool true, .bool true, .bool true, .bool true, .bool true, .bool true, .bool true, .bool true, .bool true, .bool true], .pointer (some ⟨w.heap.size, 0, none⟩), .pointer (some ⟨w.heap.size + 1, 0, none⟩), .pointer none, undef, undef, undef, undef, .agg #[.int .i64 t.places, .int .i64 t.lay, .slice A1 t.empty.length c1, .slice A2 N c2], .agg #[.int .i64 t.places, .int .i64 t.lay, .slice A1 t.empty.length c1, .slice A2 N c2], .slice (some ⟨O, 0, none⟩) N N, .slice (some ⟨P1, 0, none⟩) 1 1, .pointer (some ⟨w.heap.size, 3, none⟩), .slice A2 N c2, .int .i64 (N : Int), .slice (some ⟨nb, 0, none⟩) N N, .slice (some ⟨P2, 0, none⟩) 1 1, .pointer (some ⟨w.heap.size, 3, none⟩), .slice A2 N c2, .int .i64 (N : Int), .slice (some ⟨bb, 0, none⟩) N N, .agg #[.int .i64 t.places, .int .i64 t.lay, .slice A1 t.empty.length c1, .slice A2 N c2, .slice (some ⟨O, 0, none⟩) N N, .slice (some ⟨nb, 0, none⟩) N N, .slice (some ⟨bb, 0, none⟩) N N], undef, undef, undef, undef, undef, undef, undef, undef, undef, undef, undef, undef, undef, undef, undef, undef, undef], defers := [] } V := by
      intro V B O us F0 F1 hF aF P1 nb kN n1 n2 P2 bb kB b1 b2
      rw [← hG]
      have s1 := B.out.size
      refine wpAnyF_two (i := 14) (j := 15) (by kernel_rfl) rfl rfl (fun K hK => ?_) (fun K hK => ?_)
      · skip
        go_simp
        refine hK.out _ _ (fun _ => B.out.alloc B.out.size _) (wpAnyF_alloc (V := V) (fun V2 s2 hb k => ?_))
        clear hK K
        obtain ⟨MB, lMB, mMB, e⟩ := name_it V
        rw [e] at k ⊢
        have kM := Lib.hid k
        have hs1 := hF.out.s1
        rw [hG]
        exact ndcdhimno V2 (Lib.hid (B.out.trans (hb.mono B.out.size))) O us F0 F1 (Lib.hid (hF.out.below hb)) (by omega) P1 nb (Lib.hid (box_stepR hb kN.out)) (by omega) (by omega) P2 bb (Lib.hid (box_stepR hb kB.out)) (by omega) (by omega) MB kM (by omega) (by omega)
      · skip
        go_simp
        refine hK.out _ _ (fun _ => B.out.alloc B.out.size _) (wpAnyF_alloc (V := V) (fun V2 s2 hb k => ?_))
        clear hK K
        obtain ⟨Mv, lMv, mMv, e⟩ := name_it V
        rw [e] at k ⊢
        have kV := Lib.hid k
        have hs1 := hF.out.s1
        rw [hG]
        exact ndcdhimnp V2 (Lib.hid (B.out.trans (hb.mono B.out.size))) O us F0 F1 (Lib.hid (hF.out.below hb)) (by omega) P1 nb (Lib.hid (box_stepR hb kN.out)) (by omega) (by omega) P2 bb (Lib.hid (box_stepR hb kB.out)) (by omega) (by omega) Mv kV (by omega) (by omega) (by omega) (by omega) (by omega)
    have ndcdhimp : ∀ (V : World) (B : Hid (Below w1.heap.size w1 V)) (O : Nat) (us : List Value) (F0 : Nat) (F1 : Nat) (hF : Hid (FolAt V t N O F0 F1 us)) (aF : w1.heap.size ≤ F0) (P1 : Nat) (nb : Nat) (kN : Hid (V.heap[nb]? = some (.cells ((List.replicate N (-1 : Int)).map (Value.int .i64)).toArray 3 (0, 0)))) (n1 : F1 ≤ nb) (n2 : nb < V.heap.size) (P2 : Nat) (bb : Nat) (kB : Hid (V.heap[bb]? = some (.cells ((List.replicate N (-1 : Int)).map (Value.int .i64)).toArray 3 (0, 0)))) (b1 : nb < bb) (b2 : bb < V.heap.size) (Mv : Nat) (kV : Hid (V.heap[Mv]? = some (.cells #[.pointer none] 121 (0, 0)))) (v1 : w1.heap.size ≤ Mv) (v2 : Mv < V.heap.size) (v3 : Mv < F0 ∨ F1 ≤ Mv) (v4 : Mv ≠ nb) (v5 : Mv ≠ bb), G 3 #[true, true, true, true, true, true, true, true, true, true, true, true, true, false, false, true, false] { tmps := #[.agg #[.int .i64 t.places, .int .i64 t.lay, .slice A1 t.empty.length c1, .slice A2 N c2], .agg #[.bool true, .bool true, .bool true, .bool true, .bool true, .bool true, .bool true, .bool true, .bool true, .bool true, .bool true, .bool true], .pointer (some ⟨w.heap.size, 0, none⟩), .pointer (some ⟨w.heap.size + 1, 0, none⟩), .pointer none, .pointer (some ⟨Mv, 0, none⟩), undef, undef, undef, .agg #[.int .i64 t.places, .int .i64 t.lay, .slice A1 t.empty.length c1, .slice A2 N c2], .agg #[.int .i64 t.places, .int .i64 t.lay, .slice A1 t.empty.length c1, .slice A2 N c2], .slice (some ⟨O, 0, none⟩) N N, .slice (some ⟨P1, 0, none⟩) 1 1, .pointer (some ⟨w.heap.size, 3, none⟩), .slice A2 N c2, .int .i64 (N : Int), .slice (some ⟨nb, 0, none⟩) N N, .slice (some ⟨P2, 0, none⟩) 1 1, .pointer (some ⟨w.heap.size, 3, none⟩), .slice A2 N c2, .int .i64 (N : Int), .slice (some ⟨bb, 0, none⟩) N N, undef, undef, undef, undef, undef, undef, undef, undef, undef, undef, undef, undef, undef, undef, undef, undef, undef, undef], defers := [] } V := by
      intro V B O us F0 F1 hF aF P1 nb kN n1 n2 P2 bb kB b1 b2 Mv kV v1 v2 v3 v4 v5
      rw [← hG]
      have s1 := B.out.size
      refine wpAnyF_one (i := 13) (by kernel_rfl) rfl (fun K hK => ?_)
      · skip
        go_simp
        refine hK.out _ _ (fun _ => B.out) ?_
        clear hK K
        rw [hG]
        exact ndcdhimnp V B O us F0 F1 hF aF P1 nb kN n1 n2 P2 bb kB b1 b2 Mv kV v1 v2 v3 v4 v5
    have ndcdhim : ∀ (V : World) (B : Hid (Below w1.heap.size w1 V)) (O : Nat) (us : List Value) (F0 : Nat) (F1 : Nat) (hF : Hid (FolAt V t N O F0 F1 us)) (aF : w1.heap.size ≤ F0) (P1 : Nat) (nb : Nat) (kN : Hid (V.heap[nb]? = some (.cells ((List.replicate N (-1 : Int)).map (Value.int .i64)).toArray 3 (0, 0)))) (n1 : F1 ≤ nb) (n2 : nb < V.heap.size) (P2 : Nat) (bb : Nat) (kB : Hid (V.heap[bb]? = some (.cells ((List.replicate N (-1 : Int)).map (Value.int .i64)).toArray 3 (0, 0)))) (b1 : nb < bb) (b2 : bb < V.heap.size), G 4 #[true, true, true, true, true, true, true, true, true, true, true, true, true, false, false, false, false] { tmps := #[.agg #[.int .i64 t.places, .int .i64 t.lay, .slice A1 t.empty.length c1, .slice A2 N c2], .agg #[.bool true, .bool true, .bool true, .bool true, .bool true, .bool true, .bool true, .bool true, .bool true, .bool true, .bool true, .bool true], .pointer (some ⟨w.heap.size, 0, none⟩), .pointer (some ⟨w.heap.size + 1, 0, none⟩), .pointer none, undef, undef, undef, undef, .agg #[.int .i64 t.places, .int .i64 t.lay, .slice A1 t.empty.length c1, .slice A2 N c2], .agg #[.int .i64 t.places, .int .i64 t.lay, .slice A1 t.empty.length c1, .slice A2 N c2], .slice (some ⟨O, 0, none⟩) N N, .slice (some ⟨P1, 0, none⟩) 1 1, .pointer (some ⟨w.heap.size, 3, none⟩), .slice A2 N c2, .int .i64 (N : Int), .slice (some ⟨nb, 0, none⟩) N N, .slice (some ⟨P2, 0, none⟩) 1 1, .pointer (some ⟨w.heap.size, 3, none⟩), .slice A2 N c2, .int .i64 (N : Int), .slice (some ⟨bb, 0, none⟩) N N, undef, undef, undef, undef, undef, undef, undef, undef, undef, undef, undef, undef, undef, undef, undef, undef, undef, undef], defers := [] } V := by
      intro V B O us F0 F1 hF aF P1 nb kN n1 n2 P2 bb kB b1 b2
      rw [← hG]
      have s1 := B.out.size
      refine wpAnyF_two (i := 13) (j := 15) (by kernel_rfl) rfl rfl (fun K hK => ?_) (fun K hK => ?_)
      · skip
        go_simp
        refine hK.out _ _ (fun _ => B.out) ?_
        clear hK K
        rw [hG]
        exact ndcdhimn V B O us F0 F1 hF aF P1 nb kN n1 n2 P2 bb kB b1 b2
      · skip
        go_simp
        refine hK.out _ _ (fun _ => B.out.alloc B.out.size _) (wpAnyF_alloc (V := V) (fun V2 s2 hb k => ?_))
        clear hK K
        obtain ⟨Mv, lMv, mMv, e⟩ := name_it V
        rw [e] at k ⊢
        have kV := Lib.hid k
        have hs1 := hF.out.s1
        rw [hG]
        exact ndcdhimp V2 (Lib.hid (B.out.trans (hb.mono B.out.size))) O us F0 F1 (Lib.hid (hF.out.below hb)) (by omega) P1 nb (Lib.hid (box_stepR hb kN.out)) (by omega) (by omega) P2 bb (Lib.hid (box_stepR hb kB.out)) (by omega) (by omega) Mv kV (by omega) (by omega) (by omega) (by omega) (by omega)
    have ndcdhip : ∀ (V : World) (B : Hid (Below w1.heap.size w1 V)) (O : Nat) (us : List Value) (F0 : Nat) (F1 : Nat) (hF : Hid (FolAt V t N O F0 F1 us)) (aF : w1.heap.size ≤ F0) (P1 : Nat) (nb : Nat) (kN : Hid (V.heap[nb]? = some (.cells ((List.replicate N (-1 : Int)).map (Value.int .i64)).toArray 3 (0, 0)))) (n1 : F1 ≤ nb) (n2 : nb < V.heap.size) (P2 : Nat) (kc2 : Hid (V.heap[P2]? = some (.cells #[.int .i64 (-1)] 3 (0, 0)))) (Mv : Nat) (kV : Hid (V.heap[Mv]? = some (.cells #[.pointer none] 121 (0, 0)))) (v1 : w1.heap.size ≤ Mv) (v2 : Mv < V.heap.size) (v3 : Mv < F0 ∨ F1 ≤ Mv) (v4 : Mv ≠ nb), G 4 #[true, true, true, true, true, true, true, true, true, true, true, true, false, false, false, true, false] { tmps := #[.agg #[.int .i64 t.places, .int .i64 t.lay, .slice A1 t.empty.length c1, .slice A2 N c2], .agg #[.bool true, .bool true, .bool true, .bool true, .bool true, .bool true, .bool true, .bool true, .bool true, .bool true, .bool true, .bool true], .pointer (some ⟨w.heap.size, 0, none⟩), .pointer (some ⟨w.heap.size + 1, 0, none⟩), .pointer none, .pointer (some ⟨Mv, 0, none⟩), undef, undef, undef, .agg #[.int .i64 t.places, .int .i64 t.lay, .slice A1 t.empty.length c1, .slice A2 N c2], .agg #[.int .i64 t.places, .int .i64 t.lay, .slice A1 t.empty.length c1, .slice A2 N c2], .slice (some ⟨O, 0, none⟩) N N, .slice (some ⟨P1, 0, none⟩) 1 1, .pointer (some ⟨w.heap.size, 3, none⟩), .slice A2 N c2, .int .i64 (N : Int), .slice (some ⟨nb, 0, none⟩) N N, .slice (some ⟨P2, 0, none⟩) 1 1, .pointer (some ⟨w.heap.size, 3, none⟩), .slice A2 N c2, .int .i64 (N : Int), undef, undef, undef, undef, undef, undef, undef, undef, undef, undef, undef, undef, undef, undef, undef, undef, undef, undef, undef], defers := [] } V := by
      intro V B O us F0 F1 hF aF P1 nb kN n1 n2 P2 kc2 Mv kV v1 v2 v3 v4
      rw [← hG]
      have s1 := B.out.size
      refine wpAnyF_one (i := 12) (by kernel_rfl) rfl (fun K hK => ?_)
      · skip
        go_simp
        refine (HRep.out _ _ kc2.out).mono ?_
        rintro e V2 ⟨bb, rfl, lbb, k, hb⟩
        have kB := Lib.hid k
        have s2 := hb.size
        have ubb := (Array.getElem?_eq_some_iff.1 k).1
        refine hK.out _ _ (fun _ => B.out.trans (hb.mono B.out.size)) ?_
        clear hK K
        rw [hG]
        exact ndcdhimp V2 (Lib.hid (B.out.trans (hb.mono B.out.size))) O us F0 F1 (Lib.hid (hF.out.below hb)) (by omega) P1 nb (Lib.hid (box_stepR hb kN.out)) (by omega) (by omega) P2 bb kB (by omega) (by omega) Mv (Lib.hid (box_stepR hb kV.out)) (by omega) (by omega) (by omega) (by omega) (by omega)
    have ndcdhi : ∀ (V : World) (B : Hid (Below w1.heap.size w1 V)) (O : Nat) (us : List Value) (F0 : Nat) (F1 : Nat) (hF : Hid (FolAt V t N O F0 F1 us)) (aF : w1.heap.size ≤ F0) (P1 : Nat) (nb : Nat) (kN : Hid (V.heap[nb]? = some (.cells ((List.replicate N (-1 : Int)).map (Value.int .i64)).toArray 3 (0, 0)))) (n1 : F1 ≤ nb) (n2 : nb < V.heap.size) (P2 : Nat) (kc2 : Hid (V.heap[P2]? = some (.cells #[.int .i64 (-1)] 3 (0, 0)))), G 5 #[true, true, true, true, true, true, true, true, true, true, true, true, false, false, false, false, false] { tmps := #[.agg #[.int .i64 t.places, .int .i64 t.lay, .slice A1 t.empty.length c1, .slice A2 N c2], .agg #[.bool true, .bool true, .bool true, .bool true, .bool true, .bool true, .bool true, .bool true, .bool true, .bool true, .bool true, .bool true], .pointer (some ⟨w.heap.size, 0, none⟩), .pointer (some ⟨w.heap.size + 1, 0, none⟩), .pointer none, undef, undef, undef, undef, .agg #[.int .i64 t.places, .int .i64 t.lay, .slice A1 t.empty.length c1, .slice A2 N c2], .agg #[.int .i64 t.places, .int .i64 t.lay, .slice A1 t.empty.length c1, .slice A2 N c2], .slice (some ⟨O, 0, none⟩) N N, .slice (some ⟨P1, 0, none⟩) 1 1, .pointer (some ⟨w.heap.size, 3, none⟩), .slice A2 N c2, .int .i64 (N : Int), .slice (some ⟨nb, 0, none⟩) N N, .slice (some ⟨P2, 0, none⟩) 1 1, .pointer (some ⟨w.heap.size, 3, none⟩), .slice A2 N c2, .int .i64 (N : Int), undef, undef, undef, undef, undef, undef, undef, undef, undef, undef, undef, undef, undef, undef, undef, undef, undef, undef, undef], defers := [] } V := by
      intro V B O us F0 F1 hF aF P1 nb kN n1 n2 P2 kc2
      rw [← hG]
      have s1 := B.out.size
      refine wpAnyF_two (i := 12) (j := 15) (by kernel_rfl) rfl rfl (fun K hK => ?_) (fun K hK => ?_)
      · skip
        go_simp
        refine (HRep.out _ _ kc2.out).mono ?_
        rintro e V2 ⟨bb, rfl, lbb, k, hb⟩
        have kB := Lib.hid k
        have s2 := hb.size
        have ubb := (Array.getElem?_eq_some_iff.1 k).1
        refine hK.out _ _ (fun _ => B.out.trans (hb.mono B.out.size)) ?_
        clear hK K
        rw [hG]
        exact ndcdhim V2 (Lib.hid (B.out.trans (hb.mono B.out.size))) O us F0 F1 (Lib.hid (hF.out.below hb)) (by omega) P1 nb (Lib.hid (box_stepR hb kN.out)) (by omega) (by omega) P2 bb kB (by omega) (by omega)
      · skip
        go_simp
        refine hK.out _ _ (fun _ => B.out.alloc B.out.size _) (wpAnyF_alloc (V := V) (fun V2 s2 hb k => ?_))
        clear hK K
        obtain ⟨Mv, lMv, mMv, e⟩ := name_it V
        rw [e] at k ⊢
        have kV := Lib.hid k
        have hs1 := hF.out.s1
        rw [hG]
        exact ndcdhip V2 (Lib.hid (B.out.trans (hb.mono B.out.size))) O us F0 F1 (Lib.hid (hF.out.below hb)) (by omega) P1 nb (Lib.hid (box_stepR hb kN.out)) (by omega) (by omega) P2 (Lib.hid (box_stepR hb kc2.out)) Mv kV (by omega) (by omega) (by omega) (by omega)
    have ndcdhp : ∀ (V : World) (B : Hid (Below w1.heap.size w1 V)) (O : Nat) (us : List Value) (F0 : Nat) (F1 : Nat) (hF : Hid (FolAt V t N O F0 F1 us)) (aF : w1.heap.size ≤ F0) (P1 : Nat) (nb : Nat) (kN : Hid (V.heap[nb]? = some (.cells ((List.replicate N (-1 : Int)).map (Value.int .i64)).toArray 3 (0, 0)))) (n1 : F1 ≤ nb) (n2 : nb < V.heap.size) (Mv : Nat) (kV : Hid (V.heap[Mv]? = some (.cells #[.pointer none] 121 (0, 0)))) (v1 : w1.heap.size ≤ Mv) (v2 : Mv < V.heap.size) (v3 : Mv < F0 ∨ F1 ≤ Mv) (v4 : Mv ≠ nb), G 5 #[true, true, true, true, true, true, true, true, false, true, true, true, false, false, false, true, false] { tmps := #[.agg #[.int .i64 t.places, .int .i64 t.lay, .slice A1 t.empty.length c1, .slice A2 N c2], .agg #[.bool true, .bool true, .bool true, .bool true, .bool true, .bool true, .bool true, .bool true, .bool true, .bool true, .bool true, .bool true], .pointer (some ⟨w.heap.size, 0, none⟩), .pointer (some ⟨w.heap.size + 1, 0, none⟩), .pointer none, .pointer (some ⟨Mv, 0, none⟩), undef, undef, undef, .agg #[.int .i64 t.places, .int .i64 t.lay, .slice A1 t.empty.length c1, .slice A2 N c2], .agg #[.int .i64 t.places, .int .i64 t.lay, .slice A1 t.empty.length c1, .slice A2 N c2], .slice (some ⟨O, 0, none⟩) N N, .slice (some ⟨P1, 0, none⟩) 1 1, .pointer (some ⟨w.heap.size, 3, none⟩), .slice A2 N c2, .int .i64 (N : Int), .slice (some ⟨nb, 0, none⟩) N N, undef, .pointer (some ⟨w.heap.size, 3, none⟩), .slice A2 N c2, .int .i64 (N : Int), undef, undef, undef, undef, undef, undef, undef, undef, undef, undef, undef, undef, undef, undef, undef, undef, undef, undef, undef], defers := [] } V := by
      intro V B O us F0 F1 hF aF P1 nb kN n1 n2 Mv kV v1 v2 v3 v4
      rw [← hG]
      have s1 := B.out.size
      refine wpAnyF_one (i := 8) (by kernel_rfl) rfl (fun K hK => ?_)
      · skip
        go_simp
        refine hK.out _ _ (fun _ => B.out.alloc B.out.size _) (wpAnyF_alloc (V := V) (fun V2 s2 hb k => ?_))
        clear hK K
        obtain ⟨P2, lP2, mP2, e⟩ := name_it V
        rw [e] at k ⊢
        have kc2 := Lib.hid k
        have hs1 := hF.out.s1
        rw [hG]
        exact ndcdhip V2 (Lib.hid (B.out.trans (hb.mono B.out.size))) O us F0 F1 (Lib.hid (hF.out.below hb)) (by omega) P1 nb (Lib.hid (box_stepR hb kN.out)) (by omega) (by omega) P2 kc2 Mv (Lib.hid (box_stepR hb kV.out)) (by omega) (by omega) (by omega) (by omega)
    have ndcdh : ∀ (V : World) (B : Hid (Below w1.heap.size w1 V)) (O : Nat) (us : List Value) (F0 : Nat) (F1 : Nat) (hF : Hid (FolAt V t N O F0 F1 us)) (aF : w1.heap.size ≤ F0) (P1 : Nat) (nb : Nat) (kN : Hid (V.heap[nb]? = some (.cells ((List.replicate N (-1 : Int)).map (Value.int .i64)).toArray 3 (0, 0)))) (n1 : F1 ≤ nb) (n2 : nb < V.heap.size), G 6 #[true, true, true, true, true, true, true, true, false, true, true, true, false, false, false, false, false] { tmps := #[.agg #[.int .i64 t.places, .int .i64 t.lay, .slice A1 t.empty.length c1, .slice A2 N c2], .agg #[.bool true, .bool true, .bool true, .bool true, .bool true, .bool true, .bool true, .bool true, .bool true, .bool true, .bool true, .bool true], .pointer (some ⟨w.heap.size, 0, none⟩), .pointer (some ⟨w.heap.size + 1, 0, none⟩), .pointer none, undef, undef, undef, undef, .agg #[.int .i64 t.places, .int .i64 t.lay, .slice A1 t.empty.length c1, .slice A2 N c2], .agg #[.int .i64 t.places, .int .i64 t.lay, .slice A1 t.empty.length c1, .slice A2 N c2], .slice (some ⟨O, 0, none⟩) N N, .slice (some ⟨P1, 0, none⟩) 1 1, .pointer (some ⟨w.heap.size, 3, none⟩), .slice A2 N c2, .int .i64 (N : Int), .slice (some ⟨nb, 0, none⟩) N N, undef, .pointer (some ⟨w.heap.size, 3, none⟩), .slice A2 N c2, .int .i64 (N : Int), undef, undef, undef, undef, undef, undef, undef, undef, undef, undef, undef, undef, undef, undef, undef, undef, undef, undef, undef], defers := [] } V := by
      intro V B O us F0 F1 hF aF P1 nb kN n1 n2
      rw [← hG]
      have s1 := B.out.size
      refine wpAnyF_two (i := 8) (j := 15) (by kernel_rfl) rfl rfl (fun K hK => ?_) (fun K hK => ?_)
      · skip
        go_simp
        refine hK.out _ _ (fun _ => B.out.alloc B.out.size _) (wpAnyF_alloc (V := V) (fun V2 s2 hb k => ?_))
        clear hK K
        obtain ⟨P2, lP2, mP2, e⟩ := name_it V
        rw [e] at k ⊢
        have kc2 := Lib.hid k
        have hs1 := hF.out.s1
        rw [hG]
        exact ndcdhi V2 (Lib.hid (B.out.trans (hb.mono B.out.size))) O us F0 F1 (Lib.hid (hF.out.below hb)) (by omega) P1 nb (Lib.hid (box_stepR hb kN.out)) (by omega) (by omega) P2 kc2
      · skip
        go_simp
        refine hK.out _ _ (fun _ => B.out.alloc B.out.size _) (wpAnyF_alloc (V := V) (fun V2 s2 hb k => ?_))
        clear hK K
        obtain ⟨Mv, lMv, mMv, e⟩ := name_it V
        rw [e] at k ⊢
        have kV := Lib.hid k
        have hs1 := hF.out.s1
        rw [hG]
        exact ndcdhp V2 (Lib.hid (B.out.trans (hb.mono B.out.size))) O us F0 F1 (Lib.hid (hF.out.below hb)) (by omega) P1 nb (Lib.hid (box_stepR hb kN.out)) (by omega) (by omega) Mv kV (by omega) (by omega) (by omega) (by omega)
    have ndcdip : ∀ (V : World) (B : Hid (Below w1.heap.size w1 V)) (O : Nat) (us : List Value) (F0 : Nat) (F1 : Nat) (hF : Hid (FolAt V t N O F0 F1 us)) (aF : w1.heap.size ≤ F0) (P1 : Nat) (kc1 : Hid (V.heap[P1]? = some (.cells #[.int .i64 (-1)] 3 (0, 0)))) (P2 : Nat) (kc2 : Hid (V.heap[P2]? = some (.cells #[.int .i64 (-1)] 3 (0, 0)))) (Mv : Nat) (kV : Hid (V.heap[Mv]? = some (.cells #[.pointer none] 121 (0, 0)))) (v1 : w1.heap.size ≤ Mv) (v2 : Mv < V.heap.size) (v3 : Mv < F0 ∨ F1 ≤ Mv), G 5 #[true, true, true, true, true, true, true, false, true, true, true, true, false, false, false, true, false] { tmps := #[.agg #[.int .i64 t.places, .int .i64 t.lay, .slice A1 t.empty.length c1, .slice A2 N c2], .agg #[.bool true, .bool true, .bool true, .bool true, .bool true, .bool true, .bool true, .bool true, .bool true, .bool true, .bool true, .bool true], .pointer (some ⟨w.heap.size, 0, none⟩), .pointer (some ⟨w.heap.size + 1, 0, none⟩), .pointer none, .pointer (some ⟨Mv, 0, none⟩), undef, undef, undef, .agg #[.int .i64 t.places, .int .i64 t.lay, .slice A1 t.empty.length c1, .slice A2 N c2], .agg #[.int .i64 t.places, .int .i64 t.lay, .slice A1 t.empty.length c1, .slice A2 N c2], .slice (some ⟨O, 0, none⟩) N N, .slice (some ⟨P1, 0, none⟩) 1 1, .pointer (some ⟨w.heap.size, 3, none⟩), .slice A2 N c2, .int .i64 (N : Int), undef, .slice (some ⟨P2, 0, none⟩) 1 1, .pointer (some ⟨w.heap.size, 3, none⟩), .slice A2 N c2, .int .i64 (N : Int), undef, undef, undef, undef, undef, undef, undef, undef, undef, undef, undef, undef, undef, undef, undef, undef, undef, undef, undef], defers := [] } V := by
      intro V B O us F0 F1 hF aF P1 kc1 P2 kc2 Mv kV v1 v2 v3
      rw [← hG]
      have s1 := B.out.size
      refine wpAnyF_one (i := 7) (by kernel_rfl) rfl (fun K hK => ?_)
      · skip
        go_simp
        refine (HRep.out _ _ kc1.out).mono ?_
        rintro e V2 ⟨nb, rfl, lnb, k, hb⟩
        have kN := Lib.hid k
        have s2 := hb.size
        have unb := (Array.getElem?_eq_some_iff.1 k).1
        have hs1 := hF.out.s1
        refine hK.out _ _ (fun _ => B.out.trans (hb.mono B.out.size)) ?_
        clear hK K
        rw [hG]
        exact ndcdhip V2 (Lib.hid (B.out.trans (hb.mono B.out.size))) O us F0 F1 (Lib.hid (hF.out.below hb)) (by omega) P1 nb kN (by omega) (by omega) P2 (Lib.hid (box_stepR hb kc2.out)) Mv (Lib.hid (box_stepR hb kV.out)) (by omega) (by omega) (by omega) (by omega)
    have ndcdi : ∀ (V : World) (B : Hid (Below w1.heap.size w1 V)) (O : Nat) (us : List Value) (F0 : Nat) (F1 : Nat) (hF : Hid (FolAt V t N O F0 F1 us)) (aF : w1.heap.size ≤ F0) (P1 : Nat) (kc1 : Hid (V.heap[P1]? = some (.cells #[.int .i64 (-1)] 3 (0, 0)))) (P2 : Nat) (kc2 : Hid (V.heap[P2]? = some (.cells #[.int .i64 (-1)] 3 (0, 0)))), G 6 #[true, true, true, true, true, true, true, false, true, true, true, true, false, false, false, false, false] { tmps := #[.agg #[.int .i64 t.places, .int .i64 t.lay, .slice A1 t.empty.length c1, .slice A2 N c2], .agg #[.bool true, .bool true, .bool true, .bool true, .bool true, .bool true, .bool true, .bool true, .bool true, .bool true, .bool true, .bool true], .pointer (some ⟨w.heap.size, 0, none⟩), .pointer (some ⟨w.heap.size + 1, 0, none⟩), .pointer none, undef, undef, undef, undef, .agg #[.int .i64 t.places, .int .i64 t.lay, .slice A1 t.empty.length c1, .slice A2 N c2], .agg #[.int .i64 t.places, .int .i64 t.lay, .slice A1 t.empty.length c1, .slice A2 N c2], .slice (some ⟨O, 0, none⟩) N N, .slice (some ⟨P1, 0, none⟩) 1 1, .pointer (some ⟨w.heap.size, 3, none⟩), .slice A2 N c2, .int .i64 (N : Int), undef, .slice (some ⟨P2, 0, none⟩) 1 1, .pointer (some ⟨w.heap.size, 3, none⟩), .slice A2 N c2, .int .i64 (N : Int), undef, undef, undef, undef, undef, undef, undef, undef, undef, undef, undef, undef, undef, undef, undef, undef, undef, undef, undef], defers := [] } V := by
      intro V B O us F0 F1 hF aF P1 kc1 P2 kc2
      rw [← hG]
      have s1 := B.out.size
      refine wpAnyF_two (i := 7) (j := 15) (by kernel_rfl) rfl rfl (fun K hK => ?_) (fun K hK => ?_)
      · skip
        go_simp
        refine (HRep.out _ _ kc1.out).mono ?_
        rintro e V2 ⟨nb, rfl, lnb, k, hb⟩
        have kN := Lib.hid k
        have s2 := hb.size
        have unb := (Array.getElem?_eq_some_iff.1 k).1
        have hs1 := hF.out.s1
        refine hK.out _ _ (fun _ => B.out.trans (hb.mono B.out.size)) ?_
        clear hK K
        rw [hG]
        exact ndcdhi V2 (Lib.hid (B.out.trans (hb.mono B.out.size))) O us F0 F1 (Lib.hid (hF.out.below hb)) (by omega) P1 nb kN (by omega) (by omega) P2 (Lib.hid (box_stepR hb kc2.out))
      · skip
        go_simp
        refine hK.out _ _ (fun _ => B.out.alloc B.out.size _) (wpAnyF_alloc (V := V) (fun V2 s2 hb k => ?_))
        clear hK K
        obtain ⟨Mv, lMv, mMv, e⟩ := name_it V
        rw [e] at k ⊢
        have kV := Lib.hid k
        have hs1 := hF.out.s1
        rw [hG]
        exact ndcdip V2 (Lib.hid (B.out.trans (hb.mono B.out.size))) O us F0 F1 (Lib.hid (hF.out.below hb)) (by omega) P1 (Lib.hid (box_stepR hb kc1.out)) P2 (Lib.hid (box_stepR hb kc2.out)) Mv kV (by omega) (by omega) (by omega)
    have ndcdp : ∀ (V : World) (B : Hid (Below w1.heap.size w1 V)) (O : Nat) (us : List Value) (F0 : Nat) (F1 : Nat) (hF : Hid (FolAt V t N O F0 F1 us)) (aF : w1.heap.size ≤ F0) (P1 : Nat) (kc1 : Hid (V.heap[P1]? = some (.cells #[.int .i64 (-1)] 3 (0, 0)))) (Mv : Nat) (kV : Hid (V.heap[Mv]? = some (.cells #[.pointer none] 121 (0, 0)))) (v1 : w1.heap.size ≤ Mv) (v2 : Mv < V.heap.size) (v3 : Mv < F0 ∨ F1 ≤ Mv), G 6 #[true, true, true, true, true, true, true, false, false, true, true, true, false, false, false, true, false] { tmps := #[.agg #[.int .i64 t.places, .int .i64 t.lay, .slice A1 t.empty.length c1, .slice A2 N c2], .agg #[.bool true, .bool true, .bool true, .bool true, .bool true, .bool true, .bool true, .bool true, .bool true, .bool true, .bool true, .bool true], .pointer (some ⟨w.heap.size, 0, none⟩), .pointer (some ⟨w.heap.size + 1, 0, none⟩), .pointer none, .pointer (some ⟨Mv, 0, none⟩), undef, undef, undef, .agg #[.int .i64 t.places, .int .i64 t.lay, .slice A1 t.empty.length c1, .slice A2 N c2], .agg #[.int .i64 t.places, .int .i64 t.lay, .slice A1 t.empty.length c1, .slice A2 N c2], .slice (some ⟨O, 0, none⟩) N N, .slice (some ⟨P1, 0, none⟩) 1 1, .pointer (some ⟨w.heap.size, 3, none⟩), .slice A2 N c2, .int .i64 (N : Int), undef, undef, .pointer (some ⟨w.heap.size, 3, none⟩), .slice A2 N c2, .int .i64 (N : Int), undef, undef, undef, undef, undef, undef, undef, undef, undef, undef, undef, undef, undef, undef, undef, undef, undef, undef, undef], defers := [] } V := by
      intro V B O us F0 F1 hF aF P1 kc1 Mv kV v1 v2 v3
      rw [← hG]
      have s1 := B.out.size
      refine wpAnyF_two (i := 7) (j := 8) (by kernel_rfl) rfl rfl (fun K hK => ?_) (fun K hK => ?_)
      · skip
        go_simp
        refine (HRep.out _ _ kc1.out).mono ?_
        rintro e V2 ⟨nb, rfl, lnb, k, hb⟩
        have kN := Lib.hid k
        have s2 := hb.size
        have unb := (Array.getElem?_eq_some_iff.1 k).1
        have hs1 := hF.out.s1
        refine hK.out _ _ (fun _ => B.out.trans (hb.mono B.out.size)) ?_
        clear hK K
        rw [hG]
        exact ndcdhp V2 (Lib.hid (B.out.trans (hb.mono B.out.size))) O us F0 F1 (Lib.hid (hF.out.below hb)) (by omega) P1 nb kN (by omega) (by omega) Mv (Lib.hid (box_stepR hb kV.out)) (by omega) (by omega) (by omega) (by omega)
      · skip
        go_simp
        refine hK.out _ _ (fun _ => B.out.alloc B.out.size _) (wpAnyF_alloc (V := V) (fun V2 s2 hb k => ?_))
        clear hK K
        obtain ⟨P2, lP2, mP2, e⟩ := name_it V
        rw [e] at k ⊢
        have kc2 := Lib.hid k
        have hs1 := hF.out.s1
        rw [hG]
        exact ndcdip V2 (Lib.hid (B.out.trans (hb.mono B.out.size))) O us F0 F1 (Lib.hid (hF.out.below hb)) (by omega) P1 (Lib.hid (box_stepR hb kc1.out)) P2 kc2 Mv (Lib.hid (box_stepR hb kV.out)) (by omega) (by omega) (by omega)
    have ndcd : ∀ (V : World) (B : Hid (Below w1.heap.size w1 V)) (O : Nat) (us : List Value) (F0 : Nat) (F1 : Nat) (hF : Hid (FolAt V t N O F0 F1 us)) (aF : w1.heap.size ≤ F0) (P1 : Nat) (kc1 : Hid (V.heap[P1]? = some (.cells #[.int .i64 (-1)] 3 (0, 0)))), G 7 #[true, true, true, true, true, true, true, false, false, true, true, true, false, false, false, false, false] { tmps := #[.agg #[.int .i64 t.places, .int .i64 t.lay, .slice A1 t.empty.length c1, .slice A2 N c2], .agg #[.bool true, .bool true, .bool true, .bool true, .bool true, .bool true, .bool true, .bool true, .bool true, .bool true, .bool true, .bool true], .pointer (some ⟨w.heap.size, 0, none⟩), .pointer (some ⟨w.heap.size + 1, 0, none⟩), .pointer none, undef, undef, undef, undef, .agg #[.int .i64 t.places, .int .i64 t.lay, .slice A1 t.empty.length c1, .slice A2 N c2], .agg #[.int .i64 t.places, .int .i64 t.lay, .slice A1 t.empty.length c1, .slice A2 N c2], .slice (some ⟨O, 0, none⟩) N N, .slice (some ⟨P1, 0, none⟩) 1 1, .pointer (some ⟨w.heap.size, 3, none⟩), .slice A2 N c2, .int .i64 (N : Int), undef, undef, .pointer (some ⟨w.heap.size, 3, none⟩), .slice A2 N c2, .int .i64 (N : Int), undef, undef, undef, undef, undef, undef, undef, undef, undef, undef, undef, undef, undef, undef, undef, undef, undef, undef, undef], defers := [] } V := by
      intro V B O us F0 F1 hF aF P1 kc1
      rw [← hG]
      have s1 := B.out.size
      refine wpAnyF_three (i := 7) (j := 8) (k := 15) (by kernel_rfl) rfl rfl rfl (fun K hK => ?_) (fun K hK => ?_) (fun K hK => ?_)
      · skip
        go_simp
        refine (HRep.out _ _ kc1.out).mono ?_
        rintro e V2 ⟨nb, rfl, lnb, k, hb⟩
        have kN := Lib.hid k
        have s2 := hb.size
        have unb := (Array.getElem?_eq_some_iff.1 k).1
        have hs1 := hF.out.s1
        refine hK.out _ _ (fun _ => B.out.trans (hb.mono B.out.size)) ?_
        clear hK K
        rw [hG]
        exact ndcdh V2 (Lib.hid (B.out.trans (hb.mono B.out.size))) O us F0 F1 (Lib.hid (hF.out.below hb)) (by omega) P1 nb kN (by omega) (by omega)
      · skip
        go_simp
        refine hK.out _ _ (fun _ => B.out.alloc B.out.size _) (wpAnyF_alloc (V := V) (fun V2 s2 hb k => ?_))
        clear hK K
        obtain ⟨P2, lP2, mP2, e⟩ := name_it V
        rw [e] at k ⊢
        have kc2 := Lib.hid k
        have hs1 := hF.out.s1
        rw [hG]
        exact ndcdi V2 (Lib.hid (B.out.trans (hb.mono B.out.size))) O us F0 F1 (Lib.hid (hF.out.below hb)) (by omega) P1 (Lib.hid (box_stepR hb kc1.out)) P2 kc2
      · skip
        go_simp
        refine hK.out _ _ (fun _ => B.out.alloc B.out.size _) (wpAnyF_alloc (V := V) (fun V2 s2 hb k => ?_))
        clear hK K
        obtain ⟨Mv, lMv, mMv, e⟩ := name_it V
        rw [e] at k ⊢
        have kV := Lib.hid k
        have hs1 := hF.out.s1
        rw [hG]
        exact ndcdp V2 (Lib.hid (B.out.trans (hb.mono B.out.size))) O us F0 F1 (Lib.hid (hF.out.below hb)) (by omega) P1 (Lib.hid (box_stepR hb kc1.out)) Mv kV (by omega) (by omega) (by omega)
    have ndcip : ∀ (V : World) (B : Hid (Below w1.heap.size w1 V)) (O : Nat) (us : List Value) (F0 : Nat) (F1 : Nat) (hF : Hid (FolAt V t N O F0 F1 us)) (aF : w1.heap.size ≤ F0) (P2 : Nat) (kc2 : Hid (V.heap[P2]? = some (.cells #[.int .i64 (-1)] 3 (0, 0)))) (Mv : Nat) (kV : Hid (V.heap[Mv]? = some (.cells #[.pointer none] 121 (0, 0)))) (v1 : w1.heap.size ≤ Mv) (v2 : Mv < V.heap.size) (v3 : Mv < F0 ∨ F1 ≤ Mv), G 6 #[true, true, true, false, true, true, true, false, true, true, true, true, false, false, false, true, false] { tmps := #[.agg #[.int .i64 t.places, .int .i64 t.lay, .slice A1 t.empty.length c1, .slice A2 N c2], .agg #[.bool true, .bool true, .bool true, .bool true, .bool true, .bool true, .bool true, .bool true, .bool true, .bool true, .bool true, .bool true], .pointer (some ⟨w.heap.size, 0, none⟩), .pointer (some ⟨w.heap.size + 1, 0, none⟩), .pointer none, .pointer (some ⟨Mv, 0, none⟩), undef, undef, undef, .agg #[.int .i64 t.places, .int .i64 t.lay, .slice A1 t.empty.length c1, .slice A2 N c2], .agg #[.int .i64 t.places, .int .i64 t.lay, .slice A1 t.empty.length c1, .slice A2 N c2], .slice (some ⟨O, 0, none⟩) N N, undef, .pointer (some ⟨w.heap.size, 3, none⟩), .slice A2 N c2, .int .i64 (N : Int), undef, .slice (some ⟨P2, 0, none⟩) 1 1, .pointer (some ⟨w.heap.size, 3, none⟩), .slice A2 N c2, .int .i64 (N : Int), undef, undef, undef, undef, undef, undef, undef, undef, undef, undef, undef, undef, undef, undef, undef, undef, undef, undef, undef], defers := [] } V := by
      intro V B O us F0 F1 hF aF P2 kc2 Mv kV v1 v2 v3
      rw [← hG]
      have s1 := B.out.size
      refine wpAnyF_one (i := 3) (by kernel_rfl) rfl (fun K hK => ?_)
      · skip
        go_simp
        refine hK.out _ _ (fun _ => B.out.alloc B.out.size _) (wpAnyF_alloc (V := V) (fun V2 s2 hb k => ?_))
        clear hK K
        obtain ⟨P1, lP1, mP1, e⟩ := name_it V
        rw [e] at k ⊢
        have kc1 := Lib.hid k
        have hs1 := hF.out.s1
        rw [hG]
        exact ndcdip V2 (Lib.hid (B.out.trans (hb.mono B.out.size))) O us F0 F1 (Lib.hid (hF.out.below hb)) (by omega) P1 kc1 P2 (Lib.hid (box_stepR hb kc2.out)) Mv (Lib.hid (box_stepR hb kV.out)) (by omega) (by omega) (by omega)
    have ndci : ∀ (V : World) (B : Hid (Below w1.heap.size w1 V)) (O : Nat) (us : List Value) (F0 : Nat) (F1 : Nat) (hF : Hid (FolAt V t N O F0 F1 us)) (aF : w1.heap.size ≤ F0) (P2 : Nat) (kc2 : Hid (V.heap[P2]? = some (.cells #[.int .i64 (-1)] 3 (0, 0)))), G 7 #[true, true, true, false, true, true, true, false, true, true, true, true, false, false, false, false, false] { tmps := #[.agg #[.int .i64 t.places, .int .i64 t.lay, .slice A1 t.empty.length c1, .slice A2 N c2], .agg #[.bool true, .bool true, .bool true, .bool true, .bool true, .bool true, .bool true, .bool true, .bool true, .bool true, .bool true, .bool true], .pointer (some ⟨w.heap.size, 0, none⟩), .pointer (some ⟨w.heap.size + 1, 0, none⟩), .pointer none, undef, undef, undef, undef, .agg #[.int .i64 t.places, .int .i64 t.lay, .slice A1 t.empty.length c1, .slice A2 N c2], .agg #[.int .i64 t.places, .int .i64 t.lay, .slice A1 t.empty.length c1, .slice A2 N c2], .slice (some ⟨O, 0, none⟩) N N, undef, .pointer (some ⟨w.heap.size, 3, none⟩), .slice A2 N c2, .int .i64 (N : Int), undef, .slice (some ⟨P2, 0, none⟩) 1 1, .pointer (some ⟨w.heap.size, 3, none⟩), .slice A2 N c2, .int .i64 (N : Int), undef, undef, undef, undef, undef, undef, undef, undef, undef, undef, undef, undef, undef, undef, undef, undef, undef, undef, undef], defers := [] } V := by
      intro V B O us F0 F1 hF aF P2 kc2
      rw [← hG]
      have s1 := B.out.size
      refine wpAnyF_two (i := 3) (j := 15) (by kernel_rfl) rfl rfl (fun K hK => ?_) (fun K hK => ?_)
      · skip
        go_simp
        refine hK.out _ _ (fun _ => B.out.alloc B.out.size _) (wpAnyF_alloc (V := V) (fun V2 s2 hb k => ?_))
        clear hK K
        obtain ⟨P1, lP1, mP1, e⟩ := name_it V
        rw [e] at k ⊢
        have kc1 := Lib.hid k
        have hs1 := hF.out.s1
        rw [hG]
        exact ndcdi V2 (Lib.hid (B.out.trans (hb.mono B.out.size))) O us F0 F1 (Lib.hid (hF.out.below hb)) (by omega) P1 kc1 P2 (Lib.hid (box_stepR hb kc2.out))
      · skip
        go_simp
        refine hK.out _ _ (fun _ => B.out.alloc B.out.size _) (wpAnyF_alloc (V := V) (fun V2 s2 hb k => ?_))
        clear hK K
        obtain ⟨Mv, lMv, mMv, e⟩ := name_it V
        rw [e] at k ⊢
        have kV := Lib.hid k
        have hs1 := hF.out.s1
        rw [hG]
        exact ndcip V2 (Lib.hid (B.out.trans (hb.mono B.out.size))) O us F0 F1 (Lib.hid (hF.out.below hb)) (by omega) P2 (Lib.hid (box_stepR hb kc2.out)) Mv kV (by omega) (by omega) (by omega)
    have ndcp : ∀ (V : World) (B : Hid (Below w1.heap.size w1 V)) (O : Nat) (us : List Value) (F0 : Nat) (F1 : Nat) (hF : Hid (FolAt V t N O F0 F1 us)) (aF : w1.heap.size ≤ F0) (Mv : Nat) (kV : Hid (V.heap[Mv]? = some (.cells #[.pointer none] 121 (0, 0)))) (v1 : w1.heap.size ≤ Mv) (v2 : Mv < V.heap.size) (v3 : Mv < F0 ∨ F1 ≤ Mv), G 7 #[true, true, true, false, true, true, true, false, false, true, true, true, false, false, false, true, false] { tmps := #[.agg #[.int .i64 t.places, .int .i64 t.lay, .slice A1 t.empty.length c1, .slice A2 N c2], .agg #[.bool true, .bool true, .bool true, .bool true, .bool true, .bool true, .bool true, .bool true, .bool true, .bool true, .bool true, .bool true], .pointer (some ⟨w.heap.size, 0, none⟩), .pointer (some ⟨w.heap.size + 1, 0, none⟩), .pointer none, .pointer (some ⟨Mv, 0, none⟩), undef, undef, undef, .agg #[.int .i64 t.places, .int .i64 t.lay, .slice A1 t.empty.length c1, .slice A2 N c2], .agg #[.int .i64 t.places, .int .i64 t.lay, .slice A1 t.empty.length c1, .slice A2 N c2], .slice (some ⟨O, 0, none⟩) N N, undef, .pointer (some ⟨w.heap.size, 3, none⟩), .slice A2 N c2, .int .i64 (N : Int), undef, undef, .pointer (some ⟨w.heap.size, 3, none⟩), .slice A2 N c2, .int .i64 (N : Int), undef, undef, undef, undef, undef, undef, undef, undef, undef, undef, undef, undef, undef, undef, undef, undef, undef, undef, undef], defers := [] } V := by
      intro V B O us F0 F1 hF aF Mv kV v1 v2 v3
      rw [← hG]
      have s1 := B.out.size
      refine wpAnyF_two (i := 3) (j := 8) (by kernel_rfl) rfl rfl (fun K hK => ?_) (fun K hK => ?_)
      · skip
        go_simp
        refine hK.out _ _ (fun _ => B.out.alloc B.out.size _) (wpAnyF_alloc (V := V) (fun V2 s2 hb k => ?_))
        clear hK K
        obtain ⟨P1, lP1, mP1, e⟩ := name_it V
        rw [e] at k ⊢
        have kc1 := Lib.hid k
        have hs1 := hF.out.s1
        rw [hG]
        exact ndcdp V2 (Lib.hid (B.out.trans (hb.mono B.out.size))) O us F0 F1 (Lib.hid (hF.out.below hb)) (by omega) P1 kc1 Mv (Lib.hid (box_stepR hb kV.out)) (by omega) (by omega) (by omega)
      · skip
        go_simp
        refine hK.out _ _ (fun _ => B.out.alloc B.out.size _) (wpAnyF_alloc (V := V) (fun V2 s2 hb k => ?_))
        clear hK K
        obtain ⟨P2, lP2, mP2, e⟩ := name_it V
        rw [e] at k ⊢
        have kc2 := Lib.hid k
        have hs1 := hF.out.s1
        rw [hG]
        exact ndcip V2 (Lib.hid (B.out.trans (hb.mono B.out.size))) O us F0 F1 (Lib.hid (hF.out.below hb)) (by omega) P2 kc2 Mv (Lib.hid (box_stepR hb kV.out)) (by omega) (by omega) (by omega)
    have ndc : ∀ (V : World) (B : Hid (Below w1.heap.size w1 V)) (O : Nat) (us : List Value) (F0 : Nat) (F1 : Nat) (hF : Hid (FolAt V t N O F0 F1 us)) (aF : w1.heap.size ≤ F0), G 8 #[true, true, true, false, true, true, true, false, false, true, true, true, false, false, false, false, false] { tmps := #[.agg #[.int .i64 t.places, .int .i64 t.lay, .slice A1 t.empty.length c1, .slice A2 N c2], .agg #[.bool true, .bool true, .bool true, .bool true, .bool true, .bool true, .bool true, .bool true, .bool true, .bool true, .bool true, .bool true], .pointer (some ⟨w.heap.size, 0, none⟩), .pointer (some ⟨w.heap.size + 1, 0, none⟩), .pointer none, undef, undef, undef, undef, .agg #[.int .i64 t.places, .int .i64 t.lay, .slice A1 t.empty.length c1, .slice A2 N c2], .agg #[.int .i64 t.places, .int .i64 t.lay, .slice A1 t.empty.length c1, .slice A2 N c2], .slice (some ⟨O, 0, none⟩) N N, undef, .pointer (some ⟨w.heap.size, 3, none⟩), .slice A2 N c2, .int .i64 (N : Int), undef, undef, .pointer (some ⟨w.heap.size, 3, none⟩), .slice A2 N c2, .int .i64 (N : Int), undef, undef, undef, undef, undef, undef, undef, undef, undef, undef, undef, undef, undef, undef, undef, undef, undef, undef, undef], defers := [] } V := by
      intro V B O us F0 F1 hF aF
      rw [← hG]
      have s1 := B.out.size
      refine wpAnyF_three (i := 3) (j := 8) (k := 15) (by kernel_rfl) rfl rfl rfl (fun K hK => ?_) (fun K hK => ?_) (fun K hK => ?_)
      · skip
        go_simp
        refine hK.out _ _ (fun _ => B.out.alloc B.out.size _) (wpAnyF_alloc (V := V) (fun V2 s2 hb k => ?_))
        clear hK K
        obtain ⟨P1, lP1, mP1, e⟩ := name_it V
        rw [e] at k ⊢
        have kc1 := Lib.hid k
        have hs1 := hF.out.s1
        rw [hG]
        exact ndcd V2 (Lib.hid (B.out.trans (hb.mono B.out.size))) O us F0 F1 (Lib.hid (hF.out.below hb)) (by omega) P1 kc1
      · skip
        go_simp
        refine hK.out _ _ (fun _ => B.out.alloc B.out.size _) (wpAnyF_alloc (V := V) (fun V2 s2 hb k => ?_))
        clear hK K
        obtain ⟨P2, lP2, mP2, e⟩ := name_it V
        rw [e] at k ⊢
        have kc2 := Lib.hid k
        have hs1 := hF.out.s1
        rw [hG]
        exact ndci V2 (Lib.hid (B.out.trans (hb.mono B.out.size))) O us F0 F1 (Lib.hid (hF.out.below hb)) (by omega) P2 kc2
      · skip
        go_simp
        refine hK.out _ _ (fun _ => B.out.alloc B.out.size _) (wpAnyF_alloc (V := V) (fun V2 s2 hb k => ?_))
        clear hK K
        obtain ⟨Mv, lMv, mMv, e⟩ := name_it V
        rw [e] at k ⊢
        have kV := Lib.hid k
        have hs1 := hF.out.s1
        rw [hG]
        exact ndcp V2 (Lib.hid (B.out.trans (hb.mono B.out.size))) O us F0 F1 (Lib.hid (hF.out.below hb)) (by omega) Mv kV (by omega) (by omega) (by omega)
    have nddip : ∀ (V : World) (B : Hid (Below w1.heap.size w1 V)) (P1 : Nat) (kc1 : Hid (V.heap[P1]? = some (.cells #[.int .i64 (-1)] 3 (0, 0)))) (P2 : Nat) (kc2 : Hid (V.heap[P2]? = some (.cells #[.int .i64 (-1)] 3 (0, 0)))) (Mv : Nat) (kV : Hid (V.heap[Mv]? = some (.cells #[.pointer none] 121 (0, 0)))) (v1 : w1.heap.size ≤ Mv) (v2 : Mv < V.heap.size), G 6 #[true, true, false, true, true, true, true, false, true, true, true, true, false, false, false, true, false] { tmps := #[.agg #[.int .i64 t.places, .int .i64 t.lay, .slice A1 t.empty.length c1, .slice A2 N c2], .agg #[.bool true, .bool true, .bool true, .bool true, .bool true, .bool true, .bool true, .bool true, .bool true, .bool true, .bool true, .bool true], .pointer (some ⟨w.heap.size, 0, none⟩), .pointer (some ⟨w.heap.size + 1, 0, none⟩), .pointer none, .pointer (some ⟨Mv, 0, none⟩), undef, undef, undef, .agg #[.int .i64 t.places, .int .i64 t.lay, .slice A1 t.empty.length c1, .slice A2 N c2], .agg #[.int .i64 t.places, .int .i64 t.lay, .slice A1 t.empty.length c1, .slice A2 N c2], undef, .slice (some ⟨P1, 0, none⟩) 1 1, .pointer (some ⟨w.heap.size, 3, none⟩), .slice A2 N c2, .int .i64 (N : Int), undef, .slice (some ⟨P2, 0, none⟩) 1 1, .pointer (some ⟨w.heap.size, 3, none⟩), .slice A2 N c2, .int .i64 (N : Int), undef, undef, undef, undef, undef, undef, undef, undef, undef, undef, undef, undef, undef, undef, undef, undef, undef, undef, undef], defers := [] } V := by
      intro V B P1 kc1 P2 kc2 Mv kV v1 v2
      rw [← hG]
      have s1 := B.out.size
      refine wpAnyF_one (i := 2) (by kernel_rfl) rfl (fun K hK => ?_)
      · skip
        go_simp
        refine (HFol.out _ (Hw1.out.trans (B.out.mono Hw1.out.size))).mono ?_
        rintro e V2 ⟨O, us, he, h1, h2, h3, h4, hb⟩
        have hF := Lib.hid (fol_of HN.out h1 h2 h3 h4)
        rw [HN.out] at he
        subst he
        have s2 := hb.size
        refine hK.out _ _ (fun _ => B.out.trans (hb.mono B.out.size)) ?_
        clear hK K h1 h2 h3 h4
        obtain ⟨F0, lF0, mF0, e0⟩ := name_it V
        obtain ⟨F1, lF1, mF1, e1⟩ := name_it V2
        rw [e0, e1] at hF
        rw [hG]
        exact ndcdip V2 (Lib.hid (B.out.trans (hb.mono B.out.size))) O us F0 F1 hF (by omega) P1 (Lib.hid (box_stepR hb kc1.out)) P2 (Lib.hid (box_stepR hb kc2.out)) Mv (Lib.hid (box_stepR hb kV.out)) (by omega) (by omega) (by omega)
    have nddi : ∀ (V : World) (B : Hid (Below w1.heap.size w1 V)) (P1 : Nat) (kc1 : Hid (V.heap[P1]? = some (.cells #[.int .i64 (-1)] 3 (0, 0)))) (P2 : Nat) (kc2 : Hid (V.heap[P2]? = some (.cells #[.int .i64 (-1)] 3 (0, 0)))), G 7 #[true, true, false, true, true, true, true, false, true, true, true, true, false, false, false, false, false] { tmps := #[.agg #[.int .i64 t.places, .int .i64 t.lay, .slice A1 t.empty.length c1, .slice A2 N c2], .agg #[.bool true, .bool true, .bool true, .bool true, .bool true, .bool true, .bool true, .bool true, .bool true, .bool true, .bool true, .bool true], .pointer (some ⟨w.heap.size, 0, none⟩), .pointer (some ⟨w.heap.size + 1, 0, none⟩), .pointer none, undef, undef, undef, undef, .agg #[.int .i64 t.places, .int .i64 t.lay, .slice A1 t.empty.length c1, .slice A2 N c2], .agg #[.int .i64 t.places, .int .i64 t.lay, .slice A1 t.empty.length c1, .slice A2 N c2], undef, .slice (some ⟨P1, 0, none⟩) 1 1, .pointer (some ⟨w.heap.size, 3, none⟩), .slice A2 N c2, .int .i64 (N : Int), undef, .slice (some ⟨P2, 0, none⟩) 1 1, .pointer (some ⟨w.heap.size, 3, none⟩), .slice A2 N c2, .int .i64 (N : Int), undef, undef, undef, undef, undef, undef, undef, undef, undef, undef, undef, undef, undef, undef, undef, undef, undef, undef, undef], defers := [] } V := by
      intro V B P1 kc1 P2 kc2
      rw [← hG]
      have s1 := B.out.size
      refine wpAnyF_two (i := 2) (j := 15) (by kernel_rfl) rfl rfl (fun K hK => ?_) (fun K hK => ?_)
      · skip
        go_simp
        refine (HFol.out _ (Hw1.out.trans (B.out.mono Hw1.out.size))).mono ?_
        rintro e V2 ⟨O, us, he, h1, h2, h3, h4, hb⟩
        have hF := Lib.hid (fol_of HN.out h1 h2 h3 h4)
        rw [HN.out] at he
        subst he
        have s2 := hb.size
        refine hK.out _ _ (fun _ => B.out.trans (hb.mono B.out.size)) ?_
        clear hK K h1 h2 h3 h4
        obtain ⟨F0, lF0, mF0, e0⟩ := name_it V
        obtain ⟨F1, lF1, mF1, e1⟩ := name_it V2
        rw [e0, e1] at hF
        rw [hG]
        exact ndcdi V2 (Lib.hid (B.out.trans (hb.mono B.out.size))) O us F0 F1 hF (by omega) P1 (Lib.hid (box_stepR hb kc1.out)) P2 (Lib.hid (box_stepR hb kc2.out))
      · skip
        go_simp
        refine hK.out _ _ (fun _ => B.out.alloc B.out.size _) (wpAnyF_alloc (V := V) (fun V2 s2 hb k => ?_))
        clear hK K
        obtain ⟨Mv, lMv, mMv, e⟩ := name_it V
        rw [e] at k ⊢
        have kV := Lib.hid k
        rw [hG]
        exact nddip V2 (Lib.hid (B.out.trans (hb.mono B.out.size))) P1 (Lib.hid (box_stepR hb kc1.out)) P2 (Lib.hid (box_stepR hb kc2.out)) Mv kV (by omega) (by omega)
    have nddp : ∀ (V : World) (B : Hid (Below w1.heap.size w1 V)) (P1 : Nat) (kc1 : Hid (V.heap[P1]? = some (.cells #[.int .i64 (-1)] 3 (0, 0)))) (Mv : Nat) (kV : Hid (V.heap[Mv]? = some (.cells #[.pointer none] 121 (0, 0)))) (v1 : w1.heap.size ≤ Mv) (v2 : Mv < V.heap.size), G 7 #[true, true, false, true, true, true, true, false, false, true, true, true, false, false, false, true, false] { tmps := #[.agg #[.int .i64 t.places, .int .i64 t.lay, .slice A1 t.empty.length c1, .slice A2 N c2], .agg #[.bool true, .bool true, .bool true, .bool true, .bool true, .bool true, .bool true, .bool true, .bool true, .bool true, .bool true, .bool true], .pointer (some ⟨w.heap.size, 0, none⟩), .pointer (some ⟨w.heap.size + 1, 0, none⟩), .pointer none, .pointer (some ⟨Mv, 0, none⟩), undef, undef, undef, .agg #[.int .i64 t.places, .int .i64 t.lay, .slice A1 t.empty.length c1, .slice A2 N c2], .agg #[.int .i64 t.places, .int .i64 t.lay, .slice A1 t.empty.length c1, .slice A2 N c2], undef, .slice (some ⟨P1, 0, none⟩) 1 1, .pointer (some ⟨w.heap.size, 3, none⟩), .slice A2 N c2, .int .i64 (N : Int), undef, undef, .pointer (some ⟨w.heap.size, 3, none⟩), .slice A2 N c2, .int .i64 (N : Int), undef, undef, undef, undef, undef, undef, undef, undef, undef, undef, undef, undef, undef, undef, undef, undef, undef, undef, undef], defers := [] } V := by
      intro V B P1 kc1 Mv kV v1 v2
      rw [← hG]
      have s1 := B.out.size
      refine wpAnyF_two (i := 2) (j := 8) (by kernel_rfl) rfl rfl (fun K hK => ?_) (fun K hK => ?_)
      · skip
        go_simp
        refine (HFol.out _ (Hw1.out.trans (B.out.mono Hw1.out.size))).mono ?_
        rintro e V2 ⟨O, us, he, h1, h2, h3, h4, hb⟩
        have hF := Lib.hid (fol_of HN.out h1 h2 h3 h4)
        rw [HN.out] at he
        subst he
        have s2 := hb.size
        refine hK.out _ _ (fun _ => B.out.trans (hb.mono B.out.size)) ?_
        clear hK K h1 h2 h3 h4
        obtain ⟨F0, lF0, mF0, e0⟩ := name_it V
        obtain ⟨F1, lF1, mF1, e1⟩ := name_it V2
        rw [e0, e1] at hF
        rw [hG]
        exact ndcdp V2 (Lib.hid (B.out.trans (hb.mono B.out.size))) O us F0 F1 hF (by omega) P1 (Lib.hid (box_stepR hb kc1.out)) Mv (Lib.hid (box_stepR hb kV.out)) (by omega) (by omega) (by omega)
      · skip
        go_simp
        refine hK.out _ _ (fun _ => B.out.alloc B.out.size _) (wpAnyF_alloc (V := V) (fun V2 s2 hb k => ?_))
        clear hK K
        obtain ⟨P2, lP2, mP2, e⟩ := name_it V
        rw [e] at k ⊢
        have kc2 := Lib.hid k
        rw [hG]
        exact nddip V2 (Lib.hid (B.out.trans (hb.mono B.out.size))) P1 (Lib.hid (box_stepR hb kc1.out)) P2 kc2 Mv (Lib.hid (box_stepR hb kV.out)) (by omega) (by omega)
    have ndd : ∀ (V : World) (B : Hid (Below w1.heap.size w1 V)) (P1 : Nat) (kc1 : Hid (V.heap[P1]? = some (.cells #[.int .i64 (-1)] 3 (0, 0)))), G 8 #[true, true, false, true, true, true, true, false, false, true, true, true, false, false, false, false, false] { tmps := #[.agg #[.int .i64 t.places, .int .i64 t.lay, .slice A1 t.empty.length c1, .slice A2 N c2], .agg #[.bool true, .bool true, .bool true, .bool true, .bool true, .bool true, .bool true, .bool true, .bool true, .bool true, .bool true, .bool true], .pointer (some ⟨w.heap.size, 0, none⟩), .pointer (some ⟨w.heap.size + 1, 0, none⟩), .pointer none, undef, undef, undef, undef, .agg #[.int .i64 t.places, .int .i64 t.lay, .slice A1 t.empty.length c1, .slice A2 N c2], .agg #[.int .i64 t.places, .int .i64 t.lay, .slice A1 t.empty.length c1, .slice A2 N c2], undef, .slice (some ⟨P1, 0, none⟩) 1 1, .pointer (some ⟨w.heap.size, 3, none⟩), .slice A2 N c2, .int .i64 (N : Int), undef, undef, .pointer (some ⟨w.heap.size, 3, none⟩), .slice A2 N c2, .int .i64 (N : Int), undef, undef, undef, undef, undef, undef, undef, undef, undef, undef, undef, undef, undef, undef, undef, undef, undef, undef, undef], defers := [] } V := by
      intro V B P1 kc1
      rw [← hG]
      have s1 := B.out.size
      refine wpAnyF_three (i := 2) (j := 8) (k := 15) (by kernel_rfl) rfl rfl rfl (fun K hK => ?_) (fun K hK => ?_) (fun K hK => ?_)
      · skip
        go_simp
        refine (HFol.out _ (Hw1.out.trans (B.out.mono Hw1.out.size))).mono ?_
        rintro e V2 ⟨O, us, he, h1, h2, h3, h4, hb⟩
        have hF := Lib.hid (fol_of HN.out h1 h2 h3 h4)
        rw [HN.out] at he
        subst he
        have s2 := hb.size
        refine hK.out _ _ (fun _ => B.out.trans (hb.mono B.out.size)) ?_
        clear hK K h1 h2 h3 h4
        obtain ⟨F0, lF0, mF0, e0⟩ := name_it V
        obtain ⟨F1, lF1, mF1, e1⟩ := name_it V2
        rw [e0, e1] at hF
        rw [hG]
        exact ndcd V2 (Lib.hid (B.out.trans (hb.mono B.out.size))) O us F0 F1 hF (by omega) P1 (Lib.hid (box_stepR hb kc1.out))
      · skip
        go_simp
        refine hK.out _ _ (fun _ => B.out.alloc B.out.size _) (wpAnyF_alloc (V := V) (fun V2 s2 hb k => ?_))
        clear hK K
        obtain ⟨P2, lP2, mP2, e⟩ := name_it V
        rw [e] at k ⊢
        have kc2 := Lib.hid k
        rw [hG]
        exact nddi V2 (Lib.hid (B.out.trans (hb.mono B.out.size))) P1 (Lib.hid (box_stepR hb kc1.out)) P2 kc2
      · skip
        go_simp
        refine hK.out _ _ (fun _ => B.out.alloc B.out.size _) (wpAnyF_alloc (V := V) (fun V2 s2 hb k => ?_))
        clear hK K
        obtain ⟨Mv, lMv, mMv, e⟩ := name_it V
        rw [e] at k ⊢
        have kV := Lib.hid k
        rw [hG]
        exact nddp V2 (Lib.hid (B.out.trans (hb.mono B.out.size))) P1 (Lib.hid (box_stepR hb kc1.out)) Mv kV (by omega) (by omega)
    have ndip : ∀ (V : World) (B : Hid (Below w1.heap.size w1 V)) (P2 : Nat) (kc2 : Hid (V.heap[P2]? = some (.cells #[.int .i64 (-1)] 3 (0, 0)))) (Mv : Nat) (kV : Hid (V.heap[Mv]? = some (.cells #[.pointer none] 121 (0, 0)))) (v1 : w1.heap.size ≤ Mv) (v2 : Mv < V.heap.size), G 7 #[true, true, false, false, true, true, true, false, true, true, true, true, false, false, false, true, false] { tmps := #[.agg #[.int .i64 t.places, .int .i64 t.lay, .slice A1 t.empty.length c1, .slice A2 N c2], .agg #[.bool true, .bool true, .bool true, .bool true, .bool true, .bool true, .bool true, .bool true, .bool true, .bool true, .bool true, .bool true], .pointer (some ⟨w.heap.size, 0, none⟩), .pointer (some ⟨w.heap.size + 1, 0, none⟩), .pointer none, .pointer (some ⟨Mv, 0, none⟩), undef, undef, undef, .agg #[.int .i64 t.places, .int .i64 t.lay, .slice A1 t.empty.length c1, .slice A2 N c2], .agg #[.int .i64 t.places, .int .i64 t.lay, .slice A1 t.empty.length c1, .slice A2 N c2], undef, undef, .pointer (some ⟨w.heap.size, 3, none⟩), .slice A2 N c2, .int .i64 (N : Int), undef, .slice (some ⟨P2, 0, none⟩) 1 1, .pointer (some ⟨w.heap.size, 3, none⟩), .slice A2 N c2, .int .i64 (N : Int), undef, undef, undef, undef, undef, undef, undef, undef, undef, undef, undef, undef, undef, undef, undef, undef, undef, undef, undef], defers := [] } V := by
      intro V B P2 kc2 Mv kV v1 v2
      rw [← hG]
      have s1 := B.out.size
      refine wpAnyF_two (i := 2) (j := 3) (by kernel_rfl) rfl rfl (fun K hK => ?_) (fun K hK => ?_)
      · skip
        go_simp
        refine (HFol.out _ (Hw1.out.trans (B.out.mono Hw1.out.size))).mono ?_
        rintro e V2 ⟨O, us, he, h1, h2, h3, h4, hb⟩
        have hF := Lib.hid (fol_of HN.out h1 h2 h3 h4)
        rw [HN.out] at he
        subst he
        have s2 := hb.size
        refine hK.out _ _ (fun _ => B.out.trans (hb.mono B.out.size)) ?_
        clear hK K h1 h2 h3 h4
        obtain ⟨F0, lF0, mF0, e0⟩ := name_it V
        obtain ⟨F1, lF1, mF1, e1⟩ := name_it V2
        rw [e0, e1] at hF
        rw [hG]
        exact ndcip V2 (Lib.hid (B.out.trans (hb.mono B.out.size))) O us F0 F1 hF (by omega) P2 (Lib.hid (box_stepR hb kc2.out)) Mv (Lib.hid (box_stepR hb kV.out)) (by omega) (by omega) (by omega)
      · skip
        go_simp
        refine hK.out _ _ (fun _ => B.out.alloc B.out.size _) (wpAnyF_alloc (V := V) (fun V2 s2 hb k => ?_))
        clear hK K
        obtain ⟨P1, lP1, mP1, e⟩ := name_it V
        rw [e] at k ⊢
        have kc1 := Lib.hid k
        rw [hG]
        exact nddip V2 (Lib.hid (B.out.trans (hb.mono B.out.size))) P1 kc1 P2 (Lib.hid (box_stepR hb kc2.out)) Mv (Lib.hid (box_stepR hb kV.out)) (by omega) (by omega)
    have ndi : ∀ (V : World) (B : Hid (Below w1.heap.size w1 V)) (P2 : Nat) (kc2 : Hid (V.heap[P2]? = some (.cells #[.int .i64 (-1)] 3 (0, 0)))), G 8 #[true, true, false, false, true, true, true, false, true, true, true, true, false, false, false, false, false] { tmps := #[.agg #[.int .i64 t.places, .int .i64 t.lay, .slice A1 t.empty.length c1, .slice A2 N c2], .agg #[.bool true, .bool true, .bool true, .bool true, .bool true, .bool true, .bool true, .bool true, .bool true, .bool true, .bool true, .bool true], .pointer (some ⟨w.heap.size, 0, none⟩), .pointer (some ⟨w.heap.size + 1, 0, none⟩), .pointer none, undef, undef, undef, undef, .agg #[.int .i64 t.places, .int .i64 t.lay, .slice A1 t.empty.length c1, .slice A2 N c2], .agg #[.int .i64 t.places, .int .i64 t.lay, .slice A1 t.empty.length c1, .slice A2 N c2], undef, undef, .pointer (some ⟨w.heap.size, 3, none⟩), .slice A2 N c2, .int .i64 (N : Int), undef, .slice (some ⟨P2, 0, none⟩) 1 1, .pointer (some ⟨w.heap.size, 3, none⟩), .slice A2 N c2, .int .i64 (N : Int), undef, undef, undef, undef, undef, undef, undef, undef, undef, undef, undef, undef, undef, undef, undef, undef, undef, undef, undef], defers := [] } V := by
      intro V B P2 kc2
      rw [← hG]
      have s1 := B.out.size
      refine wpAnyF_three (i := 2) (j := 3) (k := 15) (by kernel_rfl) rfl rfl rfl (fun K hK => ?_) (fun K hK => ?_) (fun K hK => ?_)
      · skip
        go_simp
        refine (HFol.out _ (Hw1.out.trans (B.out.mono Hw1.out.size))).mono ?_
        rintro e V2 ⟨O, us, he, h1, h2, h3, h4, hb⟩
        have hF := Lib.hid (fol_of HN.out h1 h2 h3 h4)
        rw [HN.out] at he
        subst he
        have s2 := hb.size
        refine hK.out _ _ (fun _ => B.out.trans (hb.mono B.out.size)) ?_
        clear hK K h1 h2 h3 h4
        obtain ⟨F0, lF0, mF0, e0⟩ := name_it V
        obtain ⟨F1, lF1, mF1, e1⟩ := name_it V2
        rw [e0, e1] at hF
        rw [hG]
        exact ndci V2 (Lib.hid (B.out.trans (hb.mono B.out.size))) O us F0 F1 hF (by omega) P2 (Lib.hid (box_stepR hb kc2.out))
      · skip
        go_simp
        refine hK.out _ _ (fun _ => B.out.alloc B.out.size _) (wpAnyF_alloc (V := V) (fun V2 s2 hb k => ?_))
        clear hK K
        obtain ⟨P1, lP1, mP1, e⟩ := name_it V
        rw [e] at k ⊢
        have kc1 := Lib.hid k
        rw [hG]
        exact nddi V2 (Lib.hid (B.out.trans (hb.mono B.out.size))) P1 kc1 P2 (Lib.hid (box_stepR hb kc2.out))
      · skip
        go_simp
        refine hK.out _ _ (fun _ => B.out.alloc B.out.size _) (wpAnyF_alloc (V := V) (fun V2 s2 hb k => ?_))
        clear hK K
        obtain ⟨Mv, lMv, mMv, e⟩ := name_it V
        rw [e] at k ⊢
        have kV := Lib.hid k
        rw [hG]
        exact ndip V2 (Lib.hid (B.out.trans (hb.mono B.out.size))) P2 (Lib.hid (box_stepR hb kc2.out)) Mv kV (by omega) (by omega)
    have ndp : ∀ (V : World) (B : Hid (Below w1.heap.size w1 V)) (Mv : Nat) (kV : Hid (V.heap[Mv]? = some (.cells #[.pointer none] 121 (0, 0)))) (v1 : w1.heap.size ≤ Mv) (v2 : Mv < V.heap.size), G 8 #[true, true, false, false, true, true, true, false, false, true, true, true, false, false, false, true, false] { tmps := #[.agg #[.int .i64 t.places, .int .i64 t.lay, .slice A1 t.empty.length c1, .slice A2 N c2], .agg #[.bool true, .bool true, .bool true, .bool true, .bool true, .bool true, .bool true, .bool true, .bool true, .bool true, .bool true, .bool true], .pointer (some ⟨w.heap.size, 0, none⟩), .pointer (some ⟨w.heap.size + 1, 0, none⟩), .pointer none, .pointer (some ⟨Mv, 0, none⟩), undef, undef, undef, .agg #[.int .i64 t.places, .int .i64 t.lay, .slice A1 t.empty.length c1, .slice A2 N c2], .agg #[.int .i64 t.places, .int .i64 t.lay, .slice A1 t.empty.length c1, .slice A2 N c2], undef, undef, .pointer (some ⟨w.heap.size, 3, none⟩), .slice A2 N c2, .int .i64 (N : Int), undef, undef, .pointer (some ⟨w.heap.size, 3, none⟩), .slice A2 N c2, .int .i64 (N : Int), undef, undef, undef, undef, undef, undef, undef, undef, undef, undef, undef, undef, undef, undef, undef, undef, undef, undef, undef], defers := [] } V := by
      intro V B Mv kV v1 v2
      rw [← hG]
      have s1 := B.out.size
      refine wpAnyF_three (i := 2) (j := 3) (k := 8) (by kernel_rfl) rfl rfl rfl (fun K hK => ?_) (fun K hK => ?_) (fun K hK => ?_)
      · skip
        go_simp
        refine (HFol.out _ (Hw1.out.trans (B.out.mono Hw1.out.size))).mono ?_
        rintro e V2 ⟨O, us, he, h1, h2, h3, h4, hb⟩
        have hF := Lib.hid (fol_of HN.out h1 h2 h3 h4)
        rw [HN.out] at he
        subst he
        have s2 := hb.size
        refine hK.out _ _ (fun _ => B.out.trans (hb.mono B.out.size)) ?_
        clear hK K h1 h2 h3 h4
        obtain ⟨F0, lF0, mF0, e0⟩ := name_it V
        obtain ⟨F1, lF1, mF1, e1⟩ := name_it V2
        rw [e0, e1] at hF
        rw [hG]
        exact ndcp V2 (Lib.hid (B.out.trans (hb.mono B.out.size))) O us F0 F1 hF (by omega) Mv (Lib.hid (box_stepR hb kV.out)) (by omega) (by omega) (by omega)
      · skip
        go_simp
        refine hK.out _ _ (fun _ => B.out.alloc B.out.size _) (wpAnyF_alloc (V := V) (fun V2 s2 hb k => ?_))
        clear hK K
        obtain ⟨P1, lP1, mP1, e⟩ := name_it V
        rw [e] at k ⊢
        have kc1 := Lib.hid k
        rw [hG]
        exact nddp V2 (Lib.hid (B.out.trans (hb.mono B.out.size))) P1 kc1 Mv (Lib.hid (box_stepR hb kV.out)) (by omega) (by omega)
      · skip
        go_simp
        refine hK.out _ _ (fun _ => B.out.alloc B.out.size _) (wpAnyF_alloc (V := V) (fun V2 s2 hb k => ?_))
        clear hK K
        obtain ⟨P2, lP2, mP2, e⟩ := name_it V
        rw [e] at k ⊢
        have kc2 := Lib.hid k
        rw [hG]
        exact ndip V2 (Lib.hid (B.out.trans (hb.mono B.out.size))) P2 kc2 Mv (Lib.hid (box_stepR hb kV.out)) (by omega) (by omega)
    have nd : ∀ (V : World) (B : Hid (Below w1.heap.size w1 V)), G 9 #[true, true, false, false, true, true, true, false, false, true, true, true, false, false, false, false, false] { tmps := #[.agg #[.int .i64 t.places, .int .i64 t.lay, .slice A1 t.empty.length c1, .slice A2 N c2], .agg #[.bool true, .bool true, .bool true, .bool true, .bool true, .bool true, .bool true, .bool true, .bool true, .bool true, .bool true, .bool true], .pointer (some ⟨w.heap.size, 0, none⟩), .pointer (some ⟨w.heap.size + 1, 0, none⟩), .pointer none, undef, undef, undef, undef, .agg #[.int .i64 t.places, .int .i64 t.lay, .slice A1 t.empty.length c1, .slice A2 N c2], .agg #[.int .i64 t.places, .int .i64 t.lay, .slice A1 t.empty.length c1, .slice A2 N c2], undef, undef, .pointer (some ⟨w.heap.size, 3, none⟩), .slice A2 N c2, .int .i64 (N : Int), undef, undef, .pointer (some ⟨w.heap.size, 3, none⟩), .slice A2 N c2, .int .i64 (N : Int), undef, undef, undef, undef, undef, undef, undef, undef, undef, undef, undef, undef, undef, undef, undef, undef, undef, undef, undef], defers := [] } V := by
      intro V B 
      rw [← hG]
      have s1 := B.out.size
      refine wpAnyF_four (i := 2) (j := 3) (k := 8) (l := 15) (by kernel_rfl) rfl rfl rfl rfl (fun K hK => ?_) (fun K hK => ?_) (fun K hK => ?_) (fun K hK => ?_)
      · skip
        go_simp
        refine (HFol.out _ (Hw1.out.trans (B.out.mono Hw1.out.size))).mono ?_
        rintro e V2 ⟨O, us, he, h1, h2, h3, h4, hb⟩
        have hF := Lib.hid (fol_of HN.out h1 h2 h3 h4)
        rw [HN.out] at he
        subst he
        have s2 := hb.size
        refine hK.out _ _ (fun _ => B.out.trans (hb.mono B.out.size)) ?_
        clear hK K h1 h2 h3 h4
        obtain ⟨F0, lF0, mF0, e0⟩ := name_it V
        obtain ⟨F1, lF1, mF1, e1⟩ := name_it V2
        rw [e0, e1] at hF
        rw [hG]
        exact ndc V2 (Lib.hid (B.out.trans (hb.mono B.out.size))) O us F0 F1 hF (by omega)
      · skip
        go_simp
        refine hK.out _ _ (fun _ => B.out.alloc B.out.size _) (wpAnyF_alloc (V := V) (fun V2 s2 hb k => ?_))
        clear hK K
        obtain ⟨P1, lP1, mP1, e⟩ := name_it V
        rw [e] at k ⊢
        have kc1 := Lib.hid k
        rw [hG]
        exact ndd V2 (Lib.hid (B.out.trans (hb.mono B.out.size))) P1 kc1
      · skip
        go_simp
        refine hK.out _ _ (fun _ => B.out.alloc B.out.size _) (wpAnyF_alloc (V := V) (fun V2 s2 hb k => ?_))
        clear hK K
        obtain ⟨P2, lP2, mP2, e⟩ := name_it V
        rw [e] at k ⊢
        have kc2 := Lib.hid k
        rw [hG]
        exact ndi V2 (Lib.hid (B.out.trans (hb.mono B.out.size))) P2 kc2
      · skip
        go_simp
        refine hK.out _ _ (fun _ => B.out.alloc B.out.size _) (wpAnyF_alloc (V := V) (fun V2 s2 hb k => ?_))
        clear hK K
        obtain ⟨Mv, lMv, mMv, e⟩ := name_it V
        rw [e] at k ⊢
        have kV := Lib.hid k
        rw [hG]
        exact ndp V2 (Lib.hid (B.out.trans (hb.mono B.out.size))) Mv kV (by omega) (by omega)
    exact nd v0 B0
  case rest =>
    obtain ⟨Mv, MB, O, nb, bb, us, rfl, hL⟩ := hcut
    rename World => V
    have HL := Lib.hid hL
    have hwV := Hw1.out.trans (hL.bel.mono Hw1.out.size)
    have HwV := Lib.hid hwV
    have hsV := hwV.size
    have g2 := box_stepR hL.bel G0.out
    have gc := box_cells g2
    have G2 := Lib.hid g2
    have G3 := Lib.hid (box_stepR hL.bel G1.out)
    have hlt0 : w.heap.size < V.heap.size := (Array.getElem?_eq_some_iff.1 g2).1
    clear hL hwV g2
    go_upto_region 5 with (fail)
    refine wp_name (fun W => Below V.heap.size V W ∧ W.heap[V.heap.size]? = some (.cells #[.bool false, .bool false, .bool false, .bool false, .bool false, .bool false, .bool false, .bool false, .bool false, .bool false, .bool false, .bool false] 124 (0, 0)) ∧ W.heap[V.heap.size + 1]? = some (.cells #[.func (.func 89) #[] #[.pointer (some ⟨Mv, 0, none⟩), .pointer (some ⟨w.heap.size + 1, 0, none⟩), .pointer (some ⟨V.heap.size, 0, none⟩), .pointer (some ⟨V.heap.size + 1, 0, none⟩)]] 103 (0, 0))) ⟨two_belowT V _ _, (Below.heap_alloc _ _ _ (by simp)).trans (heap_alloc_new V _), heap_alloc2_new V _ _⟩ (fun Wb hW => ?_)
    obtain ⟨hbb, ht0, hg0⟩ := hW
    obtain ⟨Tb, hTb⟩ : ∃ Tb, V.heap.size = Tb := ⟨_, rfl⟩
    obtain ⟨Gv, hGv⟩ : ∃ Gv, V.heap.size + 1 = Gv := ⟨_, rfl⟩
    rw [hGv, hTb] at hg0 ⊢
    rw [hTb] at ht0
    have hmv := (Array.getElem?_eq_some_iff.1 HL.out.mv).1
    have hmb := (Array.getElem?_eq_some_iff.1 HL.out.mb).1
    have hnb := (Array.getElem?_eq_some_iff.1 HL.out.nbk).1
    have hbk := (Array.getElem?_eq_some_iff.1 HL.out.bbk).1
    have hob := (Array.getElem?_eq_some_iff.1 HL.out.ob).1
    have hdM := HL.out.dM
    have hdB := HL.out.dB
    have hdO := HL.out.dO
    have hd1 := HL.out.d1
    have hlow := HL.out.low
    have hE : GiveEnv Wb t (.slice A1 t.empty.length c1) (.slice A2 N c2) N Mv (w.heap.size + 1) Tb Gv MB O nb bb us := by
      refine ⟨(hbb.block _ hmv).trans HL.out.mv, (hbb.block _ (by omega)).trans G3.out, hg0, (hbb.block _ hmb).trans HL.out.mb, (hbb.block _ hob).trans HL.out.ob, fun i hi => ?_, HL.out.len, h12, hd1, by omega, by omega, by omega, by omega, by omega, by omega⟩
      obtain ⟨A, c, h1, h2, h3⟩ := HL.out.row i hi
      refine ⟨A, c, h1, h2.below hbb, fun b o e => ?_⟩
      have := h3 b o e
      omega
    have hS : GiveSt Wb N Tb nb bb (List.replicate N (-1)) (List.replicate N (-1)) (List.replicate 12 false) Wb :=
      ⟨Chg.refl _ _, (hbb.block _ hnb).trans HL.out.nbk, (hbb.block _ hbk).trans HL.out.bbk, ht0, by simp, by simp, by simp⟩
    have HE := Lib.hid hE
    have HS := Lib.hid hS
    have HWb := Lib.hid (HwV.out.trans (hbb.mono hsV))
    have gW := box_cells ((hbb.block _ (by omega)).trans G2.out)
    have hTlow : w.heap.size ≤ Tb := by omega
    have hlow2 : w.heap.size ≤ nb ∧ w.heap.size ≤ bb := by have := Hw1.out.size; omega
    clear hE hS hbb ht0 hg0 gc hTb hGv hdM hdB hdO hd1 hlow hmv hmb hnb hbk hob hlt0 hsV
    go_wp2
    go_loopw [28] (fun s wr => ∃ (k : Nat) (nx bf : List Int) (tr : List Bool), k ≤ N ∧ s = .int .i64 (k : Int) ∧ GiveSt Wb N Tb nb bb nx bf tr wr ∧ Inv N (May t) nx bf ∧ ∀ j, k ≤ j → j < N → nx[j]? = some (-1)) (fun s _ => N - (intOf s).toNat)
    case atStart => exact ⟨0, _, _, _, by omega, rfl, HS.out, inv_start N _, fun j _ hj => by rw [List.getElem?_replicate, if_pos hj]⟩
    case round =>
      obtain ⟨k, nx, bf, tr, hk, rfl, hs, hinv, hfr⟩ := hrel
      obtain ⟨wo, rfl⟩ : ∃ wo : World, wo = wr := ⟨_, rfl⟩
      have Hs := Lib.hid hs
      have Hinv := Lib.hid hinv
      have Hfr := Lib.hid hfr
      clear hs hinv hfr gW
      by_cases hlt : k < N
      · have zf := box_frozen Hs.out.tbk
        obtain ⟨p0, o0⟩ : ∃ b : Bool, wo.cell? ⟨Tb, 0, none⟩ = some (.bool b) := ⟨_, by rw [box_cells Hs.out.tbk 0, List.getElem?_toArray, List.getElem?_map, List.getElem?_eq_getElem (by rw [Hs.out.lt]; omega), Option.map_some]⟩
        obtain ⟨p1, o1⟩ : ∃ b : Bool, wo.cell? ⟨Tb, 1, none⟩ = some (.bool b) := ⟨_, by rw [box_cells Hs.out.tbk 1, List.getElem?_toArray, List.getElem?_map, List.getElem?_eq_getElem (by rw [Hs.out.lt]; omega), Option.map_some]⟩
        obtain ⟨p2, o2⟩ : ∃ b : Bool, wo.cell? ⟨Tb, 2, none⟩ = some (.bool b) := ⟨_, by rw [box_cells Hs.out.tbk 2, List.getElem?_toArray, List.getElem?_map, List.getElem?_eq_getElem (by rw [Hs.out.lt]; omega), Option.map_some]⟩
        obtain ⟨p3, o3⟩ : ∃ b : Bool, wo.cell? ⟨Tb, 3, none⟩ = some (.bool b) := ⟨_, by rw [box_cells Hs.out.tbk 3, List.getElem?_toArray, List.getElem?_map, List.getElem?_eq_getElem (by rw [Hs.out.lt]; omega), Option.map_some]⟩
        obtain ⟨p4, o4⟩ : ∃ b : Bool, wo.cell? ⟨Tb, 4, none⟩ = some (.bool b) := ⟨_, by rw [box_cells Hs.out.tbk 4, List.getElem?_toArray, List.getElem?_map, List.getElem?_eq_getElem (by rw [Hs.out.lt]; omega), Option.map_some]⟩
        obtain ⟨p5, o5⟩ : ∃ b : Bool, wo.cell? ⟨Tb, 5, none⟩ = some (.bool b) := ⟨_, by rw [box_cells Hs.out.tbk 5, List.getElem?_toArray, List.getElem?_map, List.getElem?_eq_getElem (by rw [Hs.out.lt]; omega), Option.map_some]⟩
        obtain ⟨p6, o6⟩ : ∃ b : Bool, wo.cell? ⟨Tb, 6, none⟩ = some (.bool b) := ⟨_, by rw [box_cells Hs.out.tbk 6, List.getElem?_toArray, List.getElem?_map, List.getElem?_eq_getElem (by rw [Hs.out.lt]; omega), Option.map_some]⟩
        obtain ⟨p7, o7⟩ : ∃ b : Bool, wo.cell? ⟨Tb, 7, none⟩ = some (.bool b) := ⟨_, by rw [box_cells Hs.out.tbk 7, List.getElem?_toArray, List.getElem?_map, List.getElem?_eq_getElem (by rw [Hs.out.lt]; omega), Option.map_some]⟩
        obtain ⟨p8, o8⟩ : ∃ b : Bool, wo.cell? ⟨Tb, 8, none⟩ = some (.bool b) := ⟨_, by rw [box_cells Hs.out.tbk 8, List.getElem?_toArray, List.getElem?_map, List.getElem?_eq_getElem (by rw [Hs.out.lt]; omega), Option.map_some]⟩
        obtain ⟨p9, o9⟩ : ∃ b : Bool, wo.cell? ⟨Tb, 9, none⟩ = some (.bool b) := ⟨_, by rw [box_cells Hs.out.tbk 9, List.getElem?_toArray, List.getElem?_map, List.getElem?_eq_getElem (by rw [Hs.out.lt]; omega), Option.map_some]⟩
        obtain ⟨p10, o10⟩ : ∃ b : Bool, wo.cell? ⟨Tb, 10, none⟩ = some (.bool b) := ⟨_, by rw [box_cells Hs.out.tbk 10, List.getElem?_toArray, List.getElem?_map, List.getElem?_eq_getElem (by rw [Hs.out.lt]; omega), Option.map_some]⟩
        obtain ⟨p11, o11⟩ : ∃ b : Bool, wo.cell? ⟨Tb, 11, none⟩ = some (.bool b) := ⟨_, by rw [box_cells Hs.out.tbk 11, List.getElem?_toArray, List.getElem?_map, List.getElem?_eq_getElem (by rw [Hs.out.lt]; omega), Option.map_some]⟩
        go_upto_region 9 with (fail)
        refine wp_name (fun W => GiveSt Wb N Tb nb bb nx bf (List.replicate 12 false) W) ?_ (fun w2 hs2 => ?_)
        · have h := ((((((((((((Hs.out.setT HE.out.d2 0 false).setT HE.out.d2 1 false).setT HE.out.d2 2 false).setT HE.out.d2 3 false).setT HE.out.d2 4 false).setT HE.out.d2 5 false).setT HE.out.d2 6 false).setT HE.out.d2 7 false).setT HE.out.d2 8 false).setT HE.out.d2 9 false).setT HE.out.d2 10 false).setT HE.out.d2 11 false)
          rw [set_twelve Hs.out.lt] at h
          exact h
        have Hs2 := Lib.hid hs2
        clear hs2 zf p0 o0 p1 o1 p2 o2 p3 o3 p4 o4 p5 o5 p6 o6 p7 o7 p8 o8 p9 o9 p10 o10 p11 o11
        have e1c := box_cells (Hs2.out.keep HE.out.sb HE.out.dS) k
        rw [List.getElem?_toArray, List.getElem?_replicate, if_pos (by omega)] at e1c
        have e2c := box_cells (Hs2.out.keep HE.out.gv HE.out.dG) 0
        simp only [List.getElem?_toArray, List.getElem?_cons_zero] at e2c
        have hki : (k : Int) < 12 := by omega
        go_wp2_with fail
        refine (give_any Wb t (.slice A1 t.empty.length c1) (.slice A2 N c2) N Mv (w.heap.size + 1) Tb Gv MB O nb bb us HE.out 13 k nx bf (List.replicate 12 false) w2 Hs2.out Hinv.out hlt (fun q hq => ?_) (by decide)).mono ?_
        · have h1 := (Hinv.out.fwd q k hq).2.1
          rw [Hfr.out k (Nat.le_refl _) hlt] at h1
          have := Option.some.inj h1
          omega
        rintro e w4 ⟨r, nx2, bf2, tr2, rfl, hs4, hgr, hF, hT⟩
        have hinv2 : Inv N (May t) nx2 bf2 ∧ ∀ j, k + 1 ≤ j → j < N → nx2[j]? = some (-1) := by
          cases r with
          | false =>
            obtain ⟨rfl, rfl⟩ := hF rfl
            exact ⟨Hinv.out, fun j hj hjN => Hfr.out j (by omega) hjN⟩
          | true => exact ⟨gave_inv Hinv.out (Hfr.out k (Nat.le_refl _) hlt) (hT rfl), fun j hj hjN => gave_later Hinv.out (by omega) (Hfr.out j (by omega) hjN) (hT rfl)⟩
        have Hs4 := Lib.hid hs4
        have Hi2 := Lib.hid hinv2
        clear hs4 hgr hF hT hinv2 e1c e2c
        go_wp2
        go_roundw
        case rel => exact ⟨k + 1, nx2, bf2, tr2, by omega, by go_num, Hs4.out, Hi2.out.1, Hi2.out.2⟩
        case measure => simp [intOf]; omega
      · obtain rfl : k = N := by omega
        have e1c := box_cells (Hs.out.keep HE.out.mv HE.out.dM) 0
        simp only [List.getElem?_toArray, List.getElem?_cons_zero] at e1c
        go_wp2
        go_ret
        exact ⟨MB, nb, bb, O, _, _, nx, bf, rfl, Hs.out.keep HE.out.mb HE.out.dB, Hs.out.nbk, Hs.out.bbk, Hinv.out, Chg.below HWb.out Hs.out.chg HWb.out.size (fun j hj => by rcases hj with h | h | h <;> omega)⟩
end Go.Proofs.YtckgapeednokjaaGreat
