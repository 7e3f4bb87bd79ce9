import Derived.Test.YtckgapeednokjaaGreatTf
set_option linter.unusedVariables false
set_option linter.unusedSimpArgs false
namespace Go.Proofs.YtckgapeednokjaaGreat
open Go Go.Proofs Go.RowKit

/-! ### The reference: ready, may -/
set_option maxRecDepth 100000 in
set_option maxHeartbeats 1600000 in
theorem Ready1_any (t : Tab) (u z : Value) (w : World) (hT : TabAt w u z t) (ht : TabOk t) (i : Nat) (takes place : Int) (hi : i < t.trips.length) (hta : 0 ≤ takes ∧ takes ≤ 600) (hpl : 0 ≤ place ∧ place ≤ t.places - 1) :
    Calls Tryz.prog 91 #[.agg #[.int .i64 t.places, .int .i64 t.lay, u, z], .int .i64 (i : Int), .int .i64 takes, .int .i64 place] w (Gives w (.int .i64 (readyT t (tripAt t i) takes place))) := by
  obtain ⟨A1, c1, rfl, _, _⟩ := hT.rows.form
  obtain ⟨A2, c2, rfl, _, _⟩ := hT.trips.form
  have hw0 : Below w.heap.size w (w.alloc (.cells #[.int .i64 t.places, .int .i64 t.lay, .slice A1 t.empty.length c1, .slice A2 t.trips.length c2] 48)) := (Below.refl _ _).alloc (Nat.le_refl _) _
  have G0 := Lib.hid (heap_alloc_new w (.cells #[.int .i64 t.places, .int .i64 t.lay, .slice A1 t.empty.length c1, .slice A2 t.trips.length c2] 48 (0, 0)))
  have HT := Lib.hid hT
  have Ht := Lib.hid ht
  have h12 := ht.trips
  clear hT ht
  have Hpl := Lib.hid hpl
  have hR6 : t.empty.length ≤ 6 := by have := Ht.out.rows; have := Ht.out.places; omega
  have HR := Lib.hid Ht.out.rows
  clear hpl
  go_enter Tryz.func91, Tryz.ntmps91
  have gc := box_cells G0.out
  have gf := box_frozen G0.out
  go_upto_region 1 with (fail)
  refine wp_name (fun W => Below w.heap.size w W ∧ W.heap[w.heap.size]? = some (.cells #[.int .i64 t.places, .int .i64 t.lay, .slice A1 t.empty.length c1, .slice A2 t.trips.length c2] 48 (0, 0))) ⟨hw0, G0.out⟩ (fun w1 hW => ?_)
  obtain ⟨hw1, g1⟩ := hW
  have G1 := Lib.hid g1
  clear g1
  replace gc := box_cells G1.out
  replace gf := box_frozen G1.out
  clear hw0 G0
  obtain ⟨b, o, x, eA, hx, x0, x1, x2, x3, x4, x5, hbl⟩ := (HT.out.trips.below hw1).at_ hi
  subst eA
  have hxe : tripAt t i = x := by unfold tripAt; rw [hx]; rfl
  have hok := Ht.out.trip x (List.mem_of_getElem? hx)
  obtain ⟨q, hq⟩ : ∃ q : Nat, x.to = (q : Int) := ⟨x.to.toNat, by have := hok.to; omega⟩
  have hqR : q < t.empty.length := by have := hok.to; have := HR.out; omega
  obtain ⟨b2, o2, l, u, eA, hl, c0, hn, _⟩ := (HT.out.rows.below hw1).at_ hqR
  subst eA
  obtain ⟨hll, _, hlx⟩ := Ht.out.row q l hl
  obtain ⟨A3, c3, rfl, _, _⟩ := hn.form
  obtain ⟨p, rfl⟩ : ∃ p : Nat, place = (p : Int) := ⟨place.toNat, by have := Hpl.out; omega⟩
  have hpl : p < l.length := by have := Hpl.out; omega
  obtain ⟨b3, o3, y, eA, hy, c1', _⟩ := hn.at_ hpl
  subst eA
  have hyb := hlx y (List.mem_of_getElem? hy)
  have hst := hok.start
  have hla := Ht.out.lay
  have hres : readyT t (tripAt t i) takes (p : Int) = x.start + takes + t.lay + y := by
    unfold readyT emptyAt
    rw [hxe, hq, Int.toNat_natCast, hl, Option.getD_some, Int.toNat_natCast, hy, Option.getD_some]
  have Hres := Lib.hid hres
  rw [hq] at x1
  obtain ⟨M, hM⟩ : ∃ M, l.length = M := ⟨_, rfl⟩
  rw [hM] at c0 hpl
  have hM6 : M ≤ 6 := by have := HR.out; omega
  have hBlt : w.heap.size < w1.heap.size := (Array.getElem?_eq_some_iff.1 G1.out).1
  clear hx hxe hok hn hl hy hlx hres hll hM HR Hpl
  go_upto_region 2 with (fail)
  refine wp_name (fun W => Below w1.heap.size w1 W ∧ W.heap[w1.heap.size]? = some (.cells #[.int .i64 x.fr, .int .i64 (q : Int), .int .i64 x.start, .int .i64 x.least, .int .i64 x.most, .int .i64 x.kind] 78 (0, 0))) ?_ (fun w2 hW => ?_)
  · first
      | exact ⟨(Below.refl _ _).alloc (Nat.le_refl _) _, heap_alloc_new w1 _⟩
      | skip
  · obtain ⟨hb2, g2⟩ := hW
    have hw2 := hw1.trans (hb2.mono hw1.size)
    have G2 := Lib.hid (box_stepR hb2 G1.out)
    replace gc := box_cells G2.out
    have gx := box_cells g2
    replace c0 := cell_below hb2 c0
    replace c1' := cell_below hb2 c1'
    have f0 := Later.cell (gc 1)
    have f1 := Later.cell (gc 2)
    have f2 := Later.cell (gx 2)
    have f3 := Later.cell (gx 1)
    have f4 := Later.cell c0
    have f5 := Later.cell c1'
    go_wp2_with fail
    refine wp_region_later (by kernel_rfl) (by kernel_rfl) ?_
    repeat (go_big_quiet_step (fail))
    refine wpQuiet_nil ?_
    intro w3 hx3
    have hb3 := Later.out hx3
    clear hx3 f0 f1 f2 f3 f4 f5
    go_wp2
    go_ret
    exact gives_int Hres.out.symm (hw2.trans (hb3.mono hw2.size))
set_option maxRecDepth 100000 in
set_option maxHeartbeats 1600000 in
theorem May1_any (t : Tab) (u z : Value) (w : World) (hT : TabAt w u z t) (ht : TabOk t) (i k : Nat) (hi : i < t.trips.length) (hk : k < t.trips.length) :
    Calls Tryz.prog 50 #[.agg #[.int .i64 t.places, .int .i64 t.lay, u, z], .int .i64 (i : Int), .int .i64 (k : Int)] w (Gives w (.bool (mayT t (tripAt t i) (tripAt t k)))) := by
  obtain ⟨A1, c1, rfl, _, _⟩ := hT.rows.form
  obtain ⟨A2, c2, rfl, _, _⟩ := hT.trips.form
  have hw0 : Below w.heap.size w (w.alloc (.cells #[.int .i64 t.places, .int .i64 t.lay, .slice A1 t.empty.length c1, .slice A2 t.trips.length c2] 48)) := (Below.refl _ _).alloc (Nat.le_refl _) _
  have G0 := Lib.hid (heap_alloc_new w (.cells #[.int .i64 t.places, .int .i64 t.lay, .slice A1 t.empty.length c1, .slice A2 t.trips.length c2] 48 (0, 0)))
  have HT := Lib.hid hT
  have Ht := Lib.hid ht
  have h12 := ht.trips
  clear hT ht
  obtain ⟨N, hN⟩ : ∃ N, t.trips.length = N := ⟨_, rfl⟩
  have HN := Lib.hid hN
  have HRdy := Lib.hid (fun (u z : Value) (V : World) (h : TabAt V u z t) (x : Trip) (m p : Int) (hx : tripAt t i = x) (hm : 0 ≤ m ∧ m ≤ 600) (hp : 0 ≤ p ∧ p ≤ t.places - 1) => (hx ▸ Ready1_any t u z V h Ht.out i m p hi hm hp : Calls Tryz.prog 91 #[.agg #[.int .i64 t.places, .int .i64 t.lay, u, z], .int .i64 (i : Int), .int .i64 m, .int .i64 p] V (Gives V (.int .i64 (readyT t x m p)))))
  rw [hN] at hi hk h12 G0 hw0 ⊢
  go_enter Tryz.func50, Tryz.ntmps50
  have gc := box_cells G0.out
  have gf := box_frozen G0.out
  go_upto_region 1 with (fail)
  refine wp_name (fun W => Below w.heap.size w W ∧ W.heap[w.heap.size]? = some (.cells #[.int .i64 t.places, .int .i64 t.lay, .slice A1 t.empty.length c1, .slice A2 N c2] 48 (0, 0))) ⟨hw0, G0.out⟩ (fun w1 hW => ?_)
  obtain ⟨hw1, g1⟩ := hW
  have G1 := Lib.hid g1
  clear g1
  replace gc := box_cells G1.out
  replace gf := box_frozen G1.out
  clear hw0 G0
  obtain ⟨b, o, x, eA, hx, x0, x1, x2, x3, x4, x5, hbl⟩ := (HT.out.trips.below hw1).at_ (k := i) (by rw [HN.out]; exact hi)
  obtain ⟨b', o', y, eA', hy, y0, y1, y2, y3, y4, y5, _⟩ := (HT.out.trips.below hw1).at_ (k := k) (by rw [HN.out]; exact hk)
  subst eA
  cases eA'
  have hxe : tripAt t i = x := by unfold tripAt; rw [hx]; rfl
  have hye : tripAt t k = y := by unfold tripAt; rw [hy]; rfl
  have hox := Ht.out.trip x (List.mem_of_getElem? hx)
  have hoy := Ht.out.trip y (List.mem_of_getElem? hy)
  have hres : (decide ((i : Int) ≠ (k : Int)) && (decide (x.kind = y.kind) && decide (readyT t x x.most y.fr ≤ y.start))) = mayT t (tripAt t i) (tripAt t k) := by
    by_cases e : i = k
    · subst e
      have := may_irrefl Ht.out (i := i) (by rw [HN.out]; exact hi)
      unfold May at this
      simp only [Bool.not_eq_true] at this
      rw [this]
      simp
    · unfold mayT
      rw [hxe, hye, decide_eq_true (show (i : Int) ≠ (k : Int) by omega), Bool.true_and]
  have Hres := Lib.hid hres
  have Hxe := Lib.hid hxe
  have Hox := Lib.hid hox
  have Hoy := Lib.hid hoy
  have hBlt : w.heap.size < w1.heap.size := (Array.getElem?_eq_some_iff.1 G1.out).1
  clear hx hy hxe hye hres hox hoy
  go_cut [7, 8] from 9 to 18 (fun a7 a8 wx => ∃ p q : Nat, a7 = .pointer (some ⟨p, 0, none⟩) ∧ a8 = .pointer (some ⟨q, 0, none⟩) ∧ Below w1.heap.size w1 wx ∧ wx.heap[p]? = some (.cells #[.int .i64 x.fr, .int .i64 x.to, .int .i64 x.start, .int .i64 x.least, .int .i64 x.most, .int .i64 x.kind] 78 (0, 0)) ∧ wx.heap[q]? = some (.cells #[.int .i64 y.fr, .int .i64 y.to, .int .i64 y.start, .int .i64 y.least, .int .i64 y.most, .int .i64 y.kind] 78 (0, 0)))
  case first =>
    refine wp_region_noPanic ?_
    refine wp_region_pickA [0, 1, 2, 3, 4, 5, 6, 7, 8, 9] 4 (fun _ => true) (fun w' => Below w1.heap.size w1 w') (by kernel_rfl) (by kernel_rfl) (fun _ _ _ _ _ h => h) (Below.refl _ _).drew (fun hne => ?_)
    have n0 := fun q : Meets (fun w' => Below w1.heap.size w1 w') => cell_below q.property (gc 3)
    have m0 := fun q : Meets (fun w' => Below w1.heap.size w1 w') => cell_below q.property x0
    have r0 := fun q : Meets (fun w' => Below w1.heap.size w1 w') => cell_below q.property y0
    have m1 := fun q : Meets (fun w' => Below w1.heap.size w1 w') => cell_below q.property x1
    have r1 := fun q : Meets (fun w' => Below w1.heap.size w1 w') => cell_below q.property y1
    have m2 := fun q : Meets (fun w' => Below w1.heap.size w1 w') => cell_below q.property x2
    have r2 := fun q : Meets (fun w' => Below w1.heap.size w1 w') => cell_below q.property y2
    have m3 := fun q : Meets (fun w' => Below w1.heap.size w1 w') => cell_below q.property x3
    have r3 := fun q : Meets (fun w' => Below w1.heap.size w1 w') => cell_below q.property y3
    have m4 := fun q : Meets (fun w' => Below w1.heap.size w1 w') => cell_below q.property x4
    have r4 := fun q : Meets (fun w' => Below w1.heap.size w1 w') => cell_below q.property y4
    have m5 := fun q : Meets (fun w' => Below w1.heap.size w1 w') => cell_below q.property x5
    have r5 := fun q : Meets (fun w' => Below w1.heap.size w1 w') => cell_below q.property y5
    simp only [pick, pickN, List.filterMap_cons, List.filterMap_nil, List.getElem?_cons_zero, List.getElem?_cons_succ, Option.map_some]
    repeat (change wpQuiet _ _ _ _ (_ :: _) _; go_big_quiet_step (fail))
    refine wpQuiet_nil ?_
    clear n0 m0 m1 m2 m3 m4 m5 r0 r1 r2 r3 r4 r5 hne
    have hBv0 : Below w1.heap.size w1 w1.drew := (Below.refl _ _).drew
    obtain ⟨v0, hv0⟩ : ∃ V, V = w1.drew := ⟨_, rfl⟩
    rw [← hv0] at hBv0 ⊢
    clear hv0
    refine wpAnyF_two (i := 10) (j := 11) (by kernel_rfl) rfl rfl (fun K hK => ?_) (fun K hK => ?_)
    · skip
      go_simp
      have hBv1 := hBv0.alloc hBv0.size (.cells #[.int .i64 0, .int .i64 0, .int .i64 0, .int .i64 0, .int .i64 0, .int .i64 0] 78)
      have alv1 := (Below.refl v0.heap.size v0).alloc (Nat.le_refl _) (.cells #[.int .i64 0, .int .i64 0, .int .i64 0, .int .i64 0, .int .i64 0, .int .i64 0] 78)
      have hP := heap_alloc_new v0 (.cells #[.int .i64 0, .int .i64 0, .int .i64 0, .int .i64 0, .int .i64 0, .int .i64 0] 78)
      have lP : w1.heap.size ≤ v0.heap.size := hBv0.size
      refine hK.out _ _ (fun _ => hBv1) ?_
      clear hK K alv1
      obtain ⟨P, hgP⟩ : ∃ g, v0.heap.size = g := ⟨_, rfl⟩
      rw [hgP] at hP lP  ⊢
      clear hgP
      generalize (v0.alloc (.cells #[.int .i64 0, .int .i64 0, .int .i64 0, .int .i64 0, .int .i64 0, .int .i64 0] 78)) = v1 at *
      refine wpAnyF_one (i := 11) (by kernel_rfl) rfl (fun K hK => ?_)
      go_simp
      have hBv2 := hBv1.alloc hBv1.size (.cells #[.int .i64 0, .int .i64 0, .int .i64 0, .int .i64 0, .int .i64 0, .int .i64 0] 78)
      have alv2 := (Below.refl v1.heap.size v1).alloc (Nat.le_refl _) (.cells #[.int .i64 0, .int .i64 0, .int .i64 0, .int .i64 0, .int .i64 0, .int .i64 0] 78)
      have hQ := heap_alloc_new v1 (.cells #[.int .i64 0, .int .i64 0, .int .i64 0, .int .i64 0, .int .i64 0, .int .i64 0] 78)
      have lQ : w1.heap.size ≤ v1.heap.size := hBv1.size
      have nPQ : P ≠ v1.heap.size := Nat.ne_of_lt (Array.getElem?_eq_some_iff.1 hP).1
      replace hP := box_stepR alv2 hP
      refine hK.out _ _ (fun _ => hBv2) ?_
      clear hK K alv2
      obtain ⟨Q, hgQ⟩ : ∃ g, v1.heap.size = g := ⟨_, rfl⟩
      rw [hgQ] at hQ lQ nPQ ⊢
      clear hgQ
      generalize (v1.alloc (.cells #[.int .i64 0, .int .i64 0, .int .i64 0, .int .i64 0, .int .i64 0, .int .i64 0] 78)) = v2 at *
      refine wpAnyF_one (i := 12) (by kernel_rfl) rfl (fun K hK => ?_)
      have gf := box_frozen hP
      have gq := box_cells hP
      go_simp
      have hBv3 := ((((((hBv2.setCell (p := ⟨P, 0, none⟩) lP (.int .i64 x.fr)).setCell (p := ⟨P, 1, none⟩) lP (.int .i64 x.to)).setCell (p := ⟨P, 2, none⟩) lP (.int .i64 x.start)).setCell (p := ⟨P, 3, none⟩) lP (.int .i64 x.least)).setCell (p := ⟨P, 4, none⟩) lP (.int .i64 x.most)).setCell (p := ⟨P, 5, none⟩) lP (.int .i64 x.kind))
      replace hP := (blk_set (blk_set (blk_set (blk_set (blk_set (blk_set hP (o := 0) (.int .i64 x.fr)) (o := 1) (.int .i64 x.to)) (o := 2) (.int .i64 x.start)) (o := 3) (.int .i64 x.least)) (o := 4) (.int .i64 x.most)) (o := 5) (.int .i64 x.kind))
      simp only [List.setIfInBounds_toArray, List.set_cons_succ, List.set_cons_zero] at hP
      replace hQ := (blk_other (o := 5) (blk_other (o := 4) (blk_other (o := 3) (blk_other (o := 2) (blk_other (o := 1) (blk_other (o := 0) hQ nPQ.symm (.int .i64 x.fr)) nPQ.symm (.int .i64 x.to)) nPQ.symm (.int .i64 x.start)) nPQ.symm (.int .i64 x.least)) nPQ.symm (.int .i64 x.most)) nPQ.symm (.int .i64 x.kind))
      refine hK.out _ _ (fun _ => hBv3) ?_
      clear hK K gf gq
      generalize ((((((v2.setCell ⟨P, 0, none⟩ (.int .i64 x.fr)).setCell ⟨P, 1, none⟩ (.int .i64 x.to)).setCell ⟨P, 2, none⟩ (.int .i64 x.start)).setCell ⟨P, 3, none⟩ (.int .i64 x.least)).setCell ⟨P, 4, none⟩ (.int .i64 x.most)).setCell ⟨P, 5, none⟩ (.int .i64 x.kind)) = v3 at *
      refine wpAnyF_one (i := 13) (by kernel_rfl) rfl (fun K hK => ?_)
      have gf := box_frozen hQ
      have gq := box_cells hQ
      go_simp
      have hBv4 := ((((((hBv3.setCell (p := ⟨Q, 0, none⟩) lQ (.int .i64 y.fr)).setCell (p := ⟨Q, 1, none⟩) lQ (.int .i64 y.to)).setCell (p := ⟨Q, 2, none⟩) lQ (.int .i64 y.start)).setCell (p := ⟨Q, 3, none⟩) lQ (.int .i64 y.least)).setCell (p := ⟨Q, 4, none⟩) lQ (.int .i64 y.most)).setCell (p := ⟨Q, 5, none⟩) lQ (.int .i64 y.kind))
      replace hQ := (blk_set (blk_set (blk_set (blk_set (blk_set (blk_set hQ (o := 0) (.int .i64 y.fr)) (o := 1) (.int .i64 y.to)) (o := 2) (.int .i64 y.start)) (o := 3) (.int .i64 y.least)) (o := 4) (.int .i64 y.most)) (o := 5) (.int .i64 y.kind))
      simp only [List.setIfInBounds_toArray, List.set_cons_succ, List.set_cons_zero] at hQ
      replace hP := (blk_other (o := 5) (blk_other (o := 4) (blk_other (o := 3) (blk_other (o := 2) (blk_other (o := 1) (blk_other (o := 0) hP nPQ (.int .i64 y.fr)) nPQ (.int .i64 y.to)) nPQ (.int .i64 y.start)) nPQ (.int .i64 y.least)) nPQ (.int .i64 y.most)) nPQ (.int .i64 y.kind))
      refine hK.out _ _ (fun _ => hBv4) ?_
      clear hK K gf gq
      generalize ((((((v3.setCell ⟨Q, 0, none⟩ (.int .i64 y.fr)).setCell ⟨Q, 1, none⟩ (.int .i64 y.to)).setCell ⟨Q, 2, none⟩ (.int .i64 y.start)).setCell ⟨Q, 3, none⟩ (.int .i64 y.least)).setCell ⟨Q, 4, none⟩ (.int .i64 y.most)).setCell ⟨Q, 5, none⟩ (.int .i64 y.kind)) = v4 at *
      refine wpAnyF_done (by kernel_rfl) ?_ _
      refine NoPanic.normal ?_
      go_wp2_with fail
      go_meet
      case rel => exact ⟨P, Q, rfl, rfl, hBv4, hP, hQ⟩
    · skip
      go_simp
      have hBv1 := hBv0.alloc hBv0.size (.cells #[.int .i64 0, .int .i64 0, .int .i64 0, .int .i64 0, .int .i64 0, .int .i64 0] 78)
      have alv1 := (Below.refl v0.heap.size v0).alloc (Nat.le_refl _) (.cells #[.int .i64 0, .int .i64 0, .int .i64 0, .int .i64 0, .int .i64 0, .int .i64 0] 78)
      have hQ := heap_alloc_new v0 (.cells #[.int .i64 0, .int .i64 0, .int .i64 0, .int .i64 0, .int .i64 0, .int .i64 0] 78)
      have lQ : w1.heap.size ≤ v0.heap.size := hBv0.size
      refine hK.out _ _ (fun _ => hBv1) ?_
      clear hK K alv1
      obtain ⟨Q, hgQ⟩ : ∃ g, v0.heap.size = g := ⟨_, rfl⟩
      rw [hgQ] at hQ lQ  ⊢
      clear hgQ
      generalize (v0.alloc (.cells #[.int .i64 0, .int .i64 0, .int .i64 0, .int .i64 0, .int .i64 0, .int .i64 0] 78)) = v1 at *
      refine wpAnyF_one (i := 10) (by kernel_rfl) rfl (fun K hK => ?_)
      go_simp
      have hBv2 := hBv1.alloc hBv1.size (.cells #[.int .i64 0, .int .i64 0, .int .i64 0, .int .i64 0, .int .i64 0, .int .i64 0] 78)
      have alv2 := (Below.refl v1.heap.size v1).alloc (Nat.le_refl _) (.cells #[.int .i64 0, .int .i64 0, .int .i64 0, .int .i64 0, .int .i64 0, .int .i64 0] 78)
      have hP := heap_alloc_new v1 (.cells #[.int .i64 0, .int .i64 0, .int .i64 0, .int .i64 0, .int .i64 0, .int .i64 0] 78)
      have lP : w1.heap.size ≤ v1.heap.size := hBv1.size
      have nQP : Q ≠ v1.heap.size := Nat.ne_of_lt (Array.getElem?_eq_some_iff.1 hQ).1
      replace hQ := box_stepR alv2 hQ
      refine hK.out _ _ (fun _ => hBv2) ?_
      clear hK K alv2
      obtain ⟨P, hgP⟩ : ∃ g, v1.heap.size = g := ⟨_, rfl⟩
      rw [hgP] at hP lP nQP ⊢
      clear hgP
      generalize (v1.alloc (.cells #[.int .i64 0, .int .i64 0, .int .i64 0, .int .i64 0, .int .i64 0, .int .i64 0] 78)) = v2 at *
      refine wpAnyF_one (i := 12) (by kernel_rfl) rfl (fun K hK => ?_)
      have gf := box_frozen hP
      have gq := box_cells hP
      go_simp
      have hBv3 := ((((((hBv2.setCell (p := ⟨P, 0, none⟩) lP (.int .i64 x.fr)).setCell (p := ⟨P, 1, none⟩) lP (.int .i64 x.to)).setCell (p := ⟨P, 2, none⟩) lP (.int .i64 x.start)).setCell (p := ⟨P, 3, none⟩) lP (.int .i64 x.least)).setCell (p := ⟨P, 4, none⟩) lP (.int .i64 x.most)).setCell (p := ⟨P, 5, none⟩) lP (.int .i64 x.kind))
      replace hP := (blk_set (blk_set (blk_set (blk_set (blk_set (blk_set hP (o := 0) (.int .i64 x.fr)) (o := 1) (.int .i64 x.to)) (o := 2) (.int .i64 x.start)) (o := 3) (.int .i64 x.least)) (o := 4) (.int .i64 x.most)) (o := 5) (.int .i64 x.kind))
      simp only [List.setIfInBounds_toArray, List.set_cons_succ, List.set_cons_zero] at hP
      replace hQ := (blk_other (o := 5) (blk_other (o := 4) (blk_other (o := 3) (blk_other (o := 2) (blk_other (o := 1) (blk_other (o := 0) hQ nQP (.int .i64 x.fr)) nQP (.int .i64 x.to)) nQP (.int .i64 x.start)) nQP (.int .i64 x.least)) nQP (.int .i64 x.most)) nQP (.int .i64 x.kind))
      refine hK.out _ _ (fun _ => hBv3) ?_
      clear hK K gf gq
      generalize ((((((v2.setCell ⟨P, 0, none⟩ (.int .i64 x.fr)).setCell ⟨P, 1, none⟩ (.int .i64 x.to)).setCell ⟨P, 2, none⟩ (.int .i64 x.start)).setCell ⟨P, 3, none⟩ (.int .i64 x.least)).setCell ⟨P, 4, none⟩ (.int .i64 x.most)).setCell ⟨P, 5, none⟩ (.int .i64 x.kind)) = v3 at *
      refine wpAnyF_one (i := 13) (by kernel_rfl) rfl (fun K hK => ?_)
      have gf := box_frozen hQ
      have gq := box_cells hQ
      go_simp
      have hBv4 := ((((((hBv3.setCell (p := ⟨Q, 0, none⟩) lQ (.int .i64 y.fr)).setCell (p := ⟨Q, 1, none⟩) lQ (.int .i64 y.to)).setCell (p := ⟨Q, 2, none⟩) lQ (.int .i64 y.start)).setCell (p := ⟨Q, 3, none⟩) lQ (.int .i64 y.least)).setCell (p := ⟨Q, 4, none⟩) lQ (.int .i64 y.most)).setCell (p := ⟨Q, 5, none⟩) lQ (.int .i64 y.kind))
      replace hQ := (blk_set (blk_set (blk_set (blk_set (blk_set (blk_set hQ (o := 0) (.int .i64 y.fr)) (o := 1) (.int .i64 y.to)) (o := 2) (.int .i64 y.start)) (o := 3) (.int .i64 y.least)) (o := 4) (.int .i64 y.most)) (o := 5) (.int .i64 y.kind))
      simp only [List.setIfInBounds_toArray, List.set_cons_succ, List.set_cons_zero] at hQ
      replace hP := (blk_other (o := 5) (blk_other (o := 4) (blk_other (o := 3) (blk_other (o := 2) (blk_other (o := 1) (blk_other (o := 0) hP nQP.symm (.int .i64 y.fr)) nQP.symm (.int .i64 y.to)) nQP.symm (.int .i64 y.start)) nQP.symm (.int .i64 y.least)) nQP.symm (.int .i64 y.most)) nQP.symm (.int .i64 y.kind))
      refine hK.out _ _ (fun _ => hBv4) ?_
      clear hK K gf gq
      generalize ((((((v3.setCell ⟨Q, 0, none⟩ (.int .i64 y.fr)).setCell ⟨Q, 1, none⟩ (.int .i64 y.to)).setCell ⟨Q, 2, none⟩ (.int .i64 y.start)).setCell ⟨Q, 3, none⟩ (.int .i64 y.least)).setCell ⟨Q, 4, none⟩ (.int .i64 y.most)).setCell ⟨Q, 5, none⟩ (.int .i64 y.kind)) = v4 at *
      refine wpAnyF_done (by kernel_rfl) ?_ _
      refine NoPanic.normal ?_
      go_wp2_with fail
      go_meet
      case rel => exact ⟨P, Q, rfl, rfl, hBv4, hP, hQ⟩
  case rest =>
    obtain ⟨p, q, rfl, rfl, hbw, hP, hQ⟩ := hcut
    rename World => V
    have hw2 := hw1.trans (hbw.mono hw1.size)
    have G2 := Lib.hid (box_stepR hbw G1.out)
    replace gc := box_cells G2.out
    have gx := box_cells hP
    have gy := box_cells hQ
    have HT2 := Lib.hid (HT.out.below hw2)
    have Hm := Lib.hid (show 0 ≤ x.most ∧ x.most ≤ 600 from ⟨by have := Hox.out.least; omega, Hox.out.most⟩)
    have f0 := Later.cell (gc 0)
    have f1 := Later.cell (gc 1)
    have f2 := Later.cell (gc 2)
    have f3 := Later.cell (gc 3)
    have f4 := Later.cell (gx 5)
    have f5 := Later.cell (gx 4)
    have f6 := Later.cell (gy 5)
    have f7 := Later.cell (gy 0)
    have f8 := Later.cell (gy 2)
    have HRd := Lib.hid (fun (X : Later V) => HRdy.out (.slice A1 t.empty.length c1) (.slice (some ⟨b, o, none⟩) t.trips.length c2) X.val (HT2.out.below X.property) x x.most y.fr Hxe.out Hm.out Hoy.out.fr)
    rw [HN.out] at HRd
    clear HRdy
    obtain ⟨R, hR⟩ : ∃ R, readyT t x x.most y.fr = R := ⟨_, rfl⟩
    rw [hR] at HRd Hres
    clear hR
    by_cases e : i = k
    · skip
      have Hr := Lib.hid (show mayT t (tripAt t i) (tripAt t k) = false by rw [← Hres.out]; simp [e])
      have d1 : ((i : Int) != (k : Int)) = false := by simp [e]
      clear e
      go_wp2_with fail
      refine wp_region_later (by kernel_rfl) (by kernel_rfl) ?_
      repeat (go_big_quiet_step ((go_at_call 91; exact Later.call (HRd.out _))))
      refine wpQuiet_nil ?_
      intro w3 hx3
      have hb3 := Later.out hx3
      clear hx3 f0 f1 f2 f3 f4 f5 f6 f7 f8
      go_wp2
      go_ret
      exact gives_bool Hr.out.symm (hw2.trans (hb3.mono hw2.size))
    · skip
      have d1 : ((i : Int) != (k : Int)) = true := by simp; omega
      have e1 : decide ((i : Int) ≠ (k : Int)) = true := by simp; omega
      clear e
      by_cases e2 : x.kind = y.kind
      · skip
        have d2 : (x.kind == y.kind) = true := by simp [e2]
        by_cases e3 : R ≤ y.start
        · skip
          have d3 : decide (R ≤ y.start) = true := by simp [e3]
          have Hr := Lib.hid (show mayT t (tripAt t i) (tripAt t k) = true by rw [← Hres.out, e1]; simp [e2, e3])
          clear e1 e2
          go_wp2_with fail
          refine wp_region_later (by kernel_rfl) (by kernel_rfl) ?_
          repeat (go_big_quiet_step ((go_at_call 91; exact Later.call (HRd.out _))))
          refine wpQuiet_nil ?_
          intro w3 hx3
          have hb3 := Later.out hx3
          clear hx3 f0 f1 f2 f3 f4 f5 f6 f7 f8
          go_wp2
          go_ret
          exact gives_bool Hr.out.symm (hw2.trans (hb3.mono hw2.size))
        · skip
          have d3 : decide (R ≤ y.start) = false := by simp; omega
          have Hr := Lib.hid (show mayT t (tripAt t i) (tripAt t k) = false by rw [← Hres.out, e1]; simp [e2]; omega)
          clear e1 e2
          go_wp2_with fail
          refine wp_region_later (by kernel_rfl) (by kernel_rfl) ?_
          repeat (go_big_quiet_step ((go_at_call 91; exact Later.call (HRd.out _))))
          refine wpQuiet_nil ?_
          intro w3 hx3
          have hb3 := Later.out hx3
          clear hx3 f0 f1 f2 f3 f4 f5 f6 f7 f8
          go_wp2
          go_ret
          exact gives_bool Hr.out.symm (hw2.trans (hb3.mono hw2.size))
      · skip
        have d2 : (x.kind == y.kind) = false := by simp [e2]
        have Hr := Lib.hid (show mayT t (tripAt t i) (tripAt t k) = false by rw [← Hres.out, e1]; simp [e2])
        clear e1
        go_wp2_with fail
        refine wp_region_later (by kernel_rfl) (by kernel_rfl) ?_
        repeat (go_big_quiet_step ((go_at_call 91; exact Later.call (HRd.out _))))
        refine wpQuiet_nil ?_
        intro w3 hx3
        have hb3 := Later.out hx3
        clear hx3 f0 f1 f2 f3 f4 f5 f6 f7 f8
        go_wp2
        go_ret
        exact gives_bool Hr.out.symm (hw2.trans (hb3.mono hw2.size))
end Go.Proofs.YtckgapeednokjaaGreat
