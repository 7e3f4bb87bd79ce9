import Derived.Test.YtllobkhdeahgpaaGreatZd
import Derived.Test.YtllobkhdeahgpaaGreatE5
set_option linter.unusedVariables false
set_option linter.unusedSimpArgs false
namespace Go.Proofs.YtllobkhdeahgpaaGreat
open Go Go.Proofs Go.RowKit

/-! ### IsPlan, PlanPay -/
def goodL (d : DDay) (l : List Int) : Bool := dutyB (segN d.blocks) l && legalL d (natsOf l)
def cntI (ll : List (List Int)) (s : Nat) : Nat := ll.countP fun l => decide ((s : Int) ∈ l)
def isPlanB (d : DDay) (ll : List (List Int)) : Bool := ll.all (goodL d) && (List.range (segN d.blocks)).all fun s => cntI ll s == 1
theorem isPlan_prove {d : DDay} (hf : faultD d = 0) (ll : List (List Int)) : proveB d ll = isPlanB d ll := by
  have e : proveB d ll = proveT d (fullM (segN d.blocks)) ll := by unfold proveB; rw [hf]; rfl
  have hc : (∀ l ∈ ll, l = natsI (natsOf l)) → ∀ s, cntI ll s = (ll.map natsOf).countP fun l => decide (s ∈ l) := by
    intro h s
    unfold cntI
    rw [List.countP_map]
    refine List.countP_congr fun l hl => ?_
    simp only [Function.comp, decide_eq_true_eq]
    conv => lhs; rw [h l hl]
    exact mem_natsI
  rw [e, Bool.eq_iff_iff, prove_plan]
  unfold isPlanB goodL
  simp only [Bool.and_eq_true, List.all_eq_true, List.mem_range, beq_iff_eq]
  constructor
  · rintro ⟨h1, h2⟩
    refine ⟨fun l hl => ⟨dutyB_iff.2 (dutyI_iff.2 ⟨h1 l hl, h2.duty _ (List.mem_map_of_mem hl)⟩), h2.legal _ (List.mem_map_of_mem hl)⟩, fun s hs => ?_⟩
    rw [hc h1]
    exact h2.once s hs
  · rintro ⟨h1, h2⟩
    have h3 : ∀ l ∈ ll, l = natsI (natsOf l) := fun l hl => (dutyI_iff.1 (dutyB_iff.1 (h1 l hl).1)).1
    refine ⟨h3, ⟨fun l hl => ?_, fun l hl => ?_, fun s hs => ?_⟩⟩
    · obtain ⟨y, hy, rfl⟩ := List.mem_map.1 hl
      exact (dutyI_iff.1 (dutyB_iff.1 (h1 y hy).1)).2
    · obtain ⟨y, hy, rfl⟩ := List.mem_map.1 hl
      exact (h1 y hy).2
    · rw [← hc h3]
      exact h2 s hs
theorem isPlan_bad {d : DDay} {ll : List (List Int)} {k : Nat} {l : List Int} (h : ll[k]? = some l) (hg : goodL d l = false) : isPlanB d ll = false := by
  unfold isPlanB
  rw [not_all_of h hg]
  rfl
theorem isPlan_cnt {d : DDay} {ll : List (List Int)} {s : Nat} (h : s < segN d.blocks) (hc : (cntI ll s == 1) = false) : isPlanB d ll = false := by
  unfold isPlanB
  rw [not_all_of (l := List.range (segN d.blocks)) (j := s) (s := s) (by simp [h]) hc, Bool.and_false]
theorem isPlan_all {d : DDay} {ll : List (List Int)} (h1 : ∀ l ∈ ll, goodL d l = true) (h2 : ∀ s, s < segN d.blocks → (cntI ll s == 1) = true) : isPlanB d ll = true := by
  unfold isPlanB
  rw [Bool.and_eq_true, List.all_eq_true, List.all_eq_true]
  exact ⟨h1, fun s hs => h2 s (List.mem_range.1 hs)⟩
theorem cntI_take {ll : List (List Int)} {s k : Nat} {l : List Int} (h : ll[k]? = some l) : cntI (ll.take (k + 1)) s = cntI (ll.take k) s + if decide ((s : Int) ∈ l) then 1 else 0 := by
  have e : ll.take (k + 1) = ll.take k ++ [l] := by
    rw [List.take_add_one, h]; rfl
  unfold cntI
  rw [e, List.countP_append]
  simp [List.countP_cons]
theorem cntI_le (ll : List (List Int)) (s : Nat) : cntI ll s ≤ ll.length := List.countP_le_length
set_option maxRecDepth 100000 in
set_option maxHeartbeats 6400000 in
theorem IsPlan_any (d : DDay) (u z v : Value) (ll : List (List Int)) (w : World) (hda : DayAt w u z d) (hd : DayOk d) (hv : RowsAt w v ll) (hn : ll.length ≤ 1000) (hl : ∀ (j : Nat) (l : List Int), ll[j]? = some l → l.length ≤ 1000) :
    Calls Tryz.prog 29 #[.agg #[.int .i64 d.law.piece, .int .i64 d.law.drive, .int .i64 d.law.spread, .int .i64 d.law.brk, .int .i64 d.law.on, .int .i64 d.law.off, .int .i64 d.law.least, .int .i64 d.law.pieces, u, z], v] w (Gives w (.bool (isPlanB d ll))) := by
  have hm := day_mild hd
  have hsn := hd.segs
  obtain ⟨A1, c1, rfl, _, _⟩ := hda.blocks.form
  obtain ⟨A2, c2, rfl, _, _⟩ := hda.walk.form
  obtain ⟨A3, c3, rfl, hc3, hm3⟩ := hv.form
  have hw0 : Below w.heap.size w (w.alloc (.cells #[.int .i64 d.law.piece, .int .i64 d.law.drive, .int .i64 d.law.spread, .int .i64 d.law.brk, .int .i64 d.law.on, .int .i64 d.law.off, .int .i64 d.law.least, .int .i64 d.law.pieces, .slice A1 d.blocks.length c1, .slice A2 d.walk.length c2] 27)) := (Below.refl _ _).alloc (Nat.le_refl _) _
  have G0 := Lib.hid (heap_alloc_new w (.cells #[.int .i64 d.law.piece, .int .i64 d.law.drive, .int .i64 d.law.spread, .int .i64 d.law.brk, .int .i64 d.law.on, .int .i64 d.law.off, .int .i64 d.law.least, .int .i64 d.law.pieces, .slice A1 d.blocks.length c1, .slice A2 d.walk.length c2] 27 (0, 0)))
  have Hda := Lib.hid hda
  have Hv := Lib.hid hv
  have Hd := Lib.hid hd
  have Hl := Lib.hid hl
  clear hda hd hv hl hc3
  go_enter Tryz.func29, Tryz.ntmps29
  go_wp2_with fail
  go_loopw [5] (fun i wr => ∃ k : Nat, k ≤ ll.length ∧ i = .int .i64 k ∧ Below w.heap.size w wr ∧ wr.heap[w.heap.size]? = some (.cells #[.int .i64 d.law.piece, .int .i64 d.law.drive, .int .i64 d.law.spread, .int .i64 d.law.brk, .int .i64 d.law.on, .int .i64 d.law.off, .int .i64 d.law.least, .int .i64 d.law.pieces, .slice A1 d.blocks.length c1, .slice A2 d.walk.length c2] 27 (0, 0)) ∧ Hid (∀ j l, j < k → ll[j]? = some l → goodL d l = true)) (fun i wr => ll.length - (intOf i).toNat)
  case atStart => exact ⟨0, by omega, rfl, hw0, G0.out, fun j l hj => absurd hj (by omega)⟩
  case round =>
    obtain ⟨k, hk, rfl, hwo, hbx, Hgd⟩ := hrel
    obtain ⟨wo, rfl⟩ : ∃ wo : World, wo = wr := ⟨_, rfl⟩
    have Go := Lib.hid hbx
    have gc := box_cells Go.out
    have gf := box_frozen Go.out
    clear hbx
    by_cases hlt : k < ll.length
    · obtain ⟨b, o, l, y, rfl, hl, cl, hnl, _⟩ := (Hv.out.below hwo).at_ hlt
      have hll := Hl.out k l hl
      have Hle := Lib.hid hl
      have Hnl := Lib.hid hnl
      obtain ⟨A4, c4, rfl, _, _⟩ := hnl.form
      have hkI : (k : Int) < (ll.length : Int) := by omega
      clear hl hnl
      cases hdu : dutyB (segN d.blocks) l with
      | false =>
        have Hfin := Lib.hid (isPlan_bad (d := d) Hle.out (by unfold goodL; rw [hdu]; rfl))
        have Hdu := Lib.hid hdu
        clear hdu
        go_wp2_with fail
        refine wp_region_noPanic ?_
        refine wp_region_ph [([0, 1, 2, 3, 4], [5, 6, 7]), ([8, 9, 10, 11, 12], [13, 14, 15])] (fun _ => true) (fun w' => Below wo.heap.size wo w') (by kernel_rfl) (by kernel_rfl) (fun _ _ _ _ _ h => h) ?_
        have hb1q : Below wo.heap.size wo wo.drew := (Below.refl _ _).drew
        have HS1q := Lib.hid hb1q
        obtain ⟨w1q, hwe1q⟩ : ∃ W, W = wo.drew := ⟨_, rfl⟩
        rw [← hwe1q] at hb1q HS1q ⊢
        clear hwe1q
        have hw1q := hwo.trans (hb1q.mono hwo.size)
        have G1q := Lib.hid (box_step hb1q Go.out)
        replace gc := box_cells G1q.out
        replace gf := box_frozen G1q.out
        refine wpPh_cons HS1q.out (fun hne => ?_)
        have n0 := fun x : Meets (fun w' => Below wo.heap.size wo w') => cell_below x.property (box_cells Go.out 0)
        have n1 := fun x : Meets (fun w' => Below wo.heap.size wo w') => cell_below x.property (box_cells Go.out 1)
        have n2 := fun x : Meets (fun w' => Below wo.heap.size wo w') => cell_below x.property (box_cells Go.out 2)
        have n3 := fun x : Meets (fun w' => Below wo.heap.size wo w') => cell_below x.property (box_cells Go.out 3)
        have n4 := fun x : Meets (fun w' => Below wo.heap.size wo w') => cell_below x.property (box_cells Go.out 4)
        have n5 := fun x : Meets (fun w' => Below wo.heap.size wo w') => cell_below x.property (box_cells Go.out 5)
        have n6 := fun x : Meets (fun w' => Below wo.heap.size wo w') => cell_below x.property (box_cells Go.out 6)
        have n7 := fun x : Meets (fun w' => Below wo.heap.size wo w') => cell_below x.property (box_cells Go.out 7)
        have n8 := fun x : Meets (fun w' => Below wo.heap.size wo w') => cell_below x.property (box_cells Go.out 8)
        have n9 := fun x : Meets (fun w' => Below wo.heap.size wo w') => cell_below x.property (box_cells Go.out 9)
        have n10 := fun x : Meets (fun w' => Below wo.heap.size wo w') => cell_below x.property (cl)
        simp only [pick, pickN, List.filterMap_cons, List.filterMap_nil, List.getElem?_cons_zero, List.getElem?_cons_succ, Option.map_some]
        repeat (change wpQuiet _ _ _ _ (_ :: _) _; go_big_quiet_step (fail))
        refine wpQuiet_nil ?_
        clear n0 n1 n2 n3 n4 n5 n6 n7 n8 n9 n10 hne
        refine wpSeqK_step (fun K hK => ?_)
        go_simp
        refine (Gives.to Hdu.out (IsDuty_any d _ _ _ l _ (Hda.out.below hw1q) Hd.out (Hnl.out.below HS1q.out) hll)).mono ?_
        rintro e w2q ⟨rfl, hb2q⟩
        have HS2q := Lib.hid (HS1q.out.trans (hb2q.mono HS1q.out.size))
        have hw2q := hw1q.trans (hb2q.mono hw1q.size)
        have G2q := Lib.hid (box_step hb2q G1q.out)
        replace gc := box_cells G2q.out
        replace gf := box_frozen G2q.out
        refine hK.out _ _ (fun _ => HS2q.out) ?_
        clear hK K
        refine wpSeqK_step (fun K hK => ?_)
        go_simp
        refine hK.out _ _ (fun _ => HS2q.out) ?_
        clear hK K
        refine wpSeqK_step (fun K hK => ?_)
        go_simp
        refine hK.out _ _ (fun _ => HS2q.out) ?_
        clear hK K
        refine wpSeqK_nil ?_
        refine wpPh_cons HS2q.out (fun hne => ?_)
        have n0 := fun x : Meets (fun w' => Below wo.heap.size wo w') => cell_below x.property (box_cells Go.out 0)
        have n1 := fun x : Meets (fun w' => Below wo.heap.size wo w') => cell_below x.property (box_cells Go.out 1)
        have n2 := fun x : Meets (fun w' => Below wo.heap.size wo w') => cell_below x.property (box_cells Go.out 2)
        have n3 := fun x : Meets (fun w' => Below wo.heap.size wo w') => cell_below x.property (box_cells Go.out 3)
        have n4 := fun x : Meets (fun w' => Below wo.heap.size wo w') => cell_below x.property (box_cells Go.out 4)
        have n5 := fun x : Meets (fun w' => Below wo.heap.size wo w') => cell_below x.property (box_cells Go.out 5)
        have n6 := fun x : Meets (fun w' => Below wo.heap.size wo w') => cell_below x.property (box_cells Go.out 6)
        have n7 := fun x : Meets (fun w' => Below wo.heap.size wo w') => cell_below x.property (box_cells Go.out 7)
        have n8 := fun x : Meets (fun w' => Below wo.heap.size wo w') => cell_below x.property (box_cells Go.out 8)
        have n9 := fun x : Meets (fun w' => Below wo.heap.size wo w') => cell_below x.property (box_cells Go.out 9)
        have n10 := fun x : Meets (fun w' => Below wo.heap.size wo w') => cell_below x.property (cl)
        simp only [pick, pickN, List.filterMap_cons, List.filterMap_nil, List.getElem?_cons_zero, List.getElem?_cons_succ, Option.map_some]
        repeat (change wpQuiet _ _ _ _ (_ :: _) _; go_big_quiet_step (fail))
        refine wpQuiet_nil ?_
        clear n0 n1 n2 n3 n4 n5 n6 n7 n8 n9 n10 hne
        refine wpSeqK_step (fun K hK => ?_)
        go_simp
        refine hK.out _ _ (fun _ => HS2q.out) ?_
        clear hK K
        refine wpSeqK_step (fun K hK => ?_)
        go_simp
        refine hK.out _ _ (fun _ => HS2q.out) ?_
        clear hK K
        refine wpSeqK_step (fun K hK => ?_)
        go_simp
        refine hK.out _ _ (fun _ => HS2q.out) ?_
        clear hK K
        refine wpSeqK_nil ?_
        refine wpPh_nil ?_
        refine NoPanic.normal ?_
        go_wp2_with fail
        go_ret
        exact gives_bool Hfin.out.symm hw2q
      | true =>
        have hyes := dutyB_iff.1 hdu
        obtain ⟨hyn, hyd⟩ := dutyI_iff.1 hyes
        have Hyn := Lib.hid hyn
        have Hyes := Lib.hid hyd
        have Hdu := Lib.hid hdu
        have HnL := Lib.hid (show (natsI (natsOf l)).length = l.length by rw [← hyn])
        cases hlg : legalL d (natsOf l) with
        | false =>
          have Hfin := Lib.hid (isPlan_bad (d := d) Hle.out (by unfold goodL; rw [hdu, hlg]; rfl))
          have Hlg := Lib.hid hlg
          clear hdu hyes hyn hyd hlg
          go_wp2_with fail
          refine wp_region_noPanic ?_
          refine wp_region_ph [([0, 1, 2, 3, 4], [5, 6, 7]), ([8, 9, 10, 11, 12], [13, 14, 15])] (fun _ => true) (fun w' => Below wo.heap.size wo w') (by kernel_rfl) (by kernel_rfl) (fun _ _ _ _ _ h => h) ?_
          have hb1q : Below wo.heap.size wo wo.drew := (Below.refl _ _).drew
          have HS1q := Lib.hid hb1q
          obtain ⟨w1q, hwe1q⟩ : ∃ W, W = wo.drew := ⟨_, rfl⟩
          rw [← hwe1q] at hb1q HS1q ⊢
          clear hwe1q
          have hw1q := hwo.trans (hb1q.mono hwo.size)
          have G1q := Lib.hid (box_step hb1q Go.out)
          replace gc := box_cells G1q.out
          replace gf := box_frozen G1q.out
          refine wpPh_cons HS1q.out (fun hne => ?_)
          have n0 := fun x : Meets (fun w' => Below wo.heap.size wo w') => cell_below x.property (box_cells Go.out 0)
          have n1 := fun x : Meets (fun w' => Below wo.heap.size wo w') => cell_below x.property (box_cells Go.out 1)
          have n2 := fun x : Meets (fun w' => Below wo.heap.size wo w') => cell_below x.property (box_cells Go.out 2)
          have n3 := fun x : Meets (fun w' => Below wo.heap.size wo w') => cell_below x.property (box_cells Go.out 3)
          have n4 := fun x : Meets (fun w' => Below wo.heap.size wo w') => cell_below x.property (box_cells Go.out 4)
          have n5 := fun x : Meets (fun w' => Below wo.heap.size wo w') => cell_below x.property (box_cells Go.out 5)
          have n6 := fun x : Meets (fun w' => Below wo.heap.size wo w') => cell_below x.property (box_cells Go.out 6)
          have n7 := fun x : Meets (fun w' => Below wo.heap.size wo w') => cell_below x.property (box_cells Go.out 7)
          have n8 := fun x : Meets (fun w' => Below wo.heap.size wo w') => cell_below x.property (box_cells Go.out 8)
          have n9 := fun x : Meets (fun w' => Below wo.heap.size wo w') => cell_below x.property (box_cells Go.out 9)
          have n10 := fun x : Meets (fun w' => Below wo.heap.size wo w') => cell_below x.property (cl)
          simp only [pick, pickN, List.filterMap_cons, List.filterMap_nil, List.getElem?_cons_zero, List.getElem?_cons_succ, Option.map_some]
          repeat (change wpQuiet _ _ _ _ (_ :: _) _; go_big_quiet_step (fail))
          refine wpQuiet_nil ?_
          clear n0 n1 n2 n3 n4 n5 n6 n7 n8 n9 n10 hne
          refine wpSeqK_step (fun K hK => ?_)
          go_simp
          refine (Gives.to Hdu.out (IsDuty_any d _ _ _ l _ (Hda.out.below hw1q) Hd.out (Hnl.out.below HS1q.out) hll)).mono ?_
          rintro e w2q ⟨rfl, hb2q⟩
          have HS2q := Lib.hid (HS1q.out.trans (hb2q.mono HS1q.out.size))
          have hw2q := hw1q.trans (hb2q.mono hw1q.size)
          have G2q := Lib.hid (box_step hb2q G1q.out)
          replace gc := box_cells G2q.out
          replace gf := box_frozen G2q.out
          refine hK.out _ _ (fun _ => HS2q.out) ?_
          clear hK K
          refine wpSeqK_step (fun K hK => ?_)
          go_simp
          refine hK.out _ _ (fun _ => HS2q.out) ?_
          clear hK K
          refine wpSeqK_step (fun K hK => ?_)
          go_simp
          refine hK.out _ _ (fun _ => HS2q.out) ?_
          clear hK K
          refine wpSeqK_nil ?_
          refine wpPh_cons HS2q.out (fun hne => ?_)
          have n0 := fun x : Meets (fun w' => Below wo.heap.size wo w') => cell_below x.property (box_cells Go.out 0)
          have n1 := fun x : Meets (fun w' => Below wo.heap.size wo w') => cell_below x.property (box_cells Go.out 1)
          have n2 := fun x : Meets (fun w' => Below wo.heap.size wo w') => cell_below x.property (box_cells Go.out 2)
          have n3 := fun x : Meets (fun w' => Below wo.heap.size wo w') => cell_below x.property (box_cells Go.out 3)
          have n4 := fun x : Meets (fun w' => Below wo.heap.size wo w') => cell_below x.property (box_cells Go.out 4)
          have n5 := fun x : Meets (fun w' => Below wo.heap.size wo w') => cell_below x.property (box_cells Go.out 5)
          have n6 := fun x : Meets (fun w' => Below wo.heap.size wo w') => cell_below x.property (box_cells Go.out 6)
          have n7 := fun x : Meets (fun w' => Below wo.heap.size wo w') => cell_below x.property (box_cells Go.out 7)
          have n8 := fun x : Meets (fun w' => Below wo.heap.size wo w') => cell_below x.property (box_cells Go.out 8)
          have n9 := fun x : Meets (fun w' => Below wo.heap.size wo w') => cell_below x.property (box_cells Go.out 9)
          have n10 := fun x : Meets (fun w' => Below wo.heap.size wo w') => cell_below x.property (cl)
          simp only [pick, pickN, List.filterMap_cons, List.filterMap_nil, List.getElem?_cons_zero, List.getElem?_cons_succ, Option.map_some]
          repeat (change wpQuiet _ _ _ _ (_ :: _) _; go_big_quiet_step (fail))
          refine wpQuiet_nil ?_
          clear n0 n1 n2 n3 n4 n5 n6 n7 n8 n9 n10 hne
          refine wpSeqK_step (fun K hK => ?_)
          go_simp
          refine (Gives.to Hlg.out (Legal_ref d _ _ _ (natsOf l) _ (Hda.out.below hw2q) Hd.out ((by rw [← Hyn.out]; exact Hnl.out.below (HS1q.out.trans (hb2q.mono HS1q.out.size)))) Hyes.out)).mono ?_
          rintro e w3q ⟨rfl, hb3q⟩
          have HS3q := Lib.hid (HS2q.out.trans (hb3q.mono HS2q.out.size))
          have hw3q := hw2q.trans (hb3q.mono hw2q.size)
          have G3q := Lib.hid (box_step hb3q G2q.out)
          replace gc := box_cells G3q.out
          replace gf := box_frozen G3q.out
          refine hK.out _ _ (fun _ => HS3q.out) ?_
          clear hK K
          refine wpSeqK_step (fun K hK => ?_)
          go_simp
          refine hK.out _ _ (fun _ => HS3q.out) ?_
          clear hK K
          refine wpSeqK_step (fun K hK => ?_)
          go_simp
          refine hK.out _ _ (fun _ => HS3q.out) ?_
          clear hK K
          refine wpSeqK_nil ?_
          refine wpPh_nil ?_
          refine NoPanic.normal ?_
          go_wp2_with fail
          go_ret
          exact gives_bool Hfin.out.symm hw3q
        | true =>
          have Hgd2 := Lib.hid (show ∀ j x, j < k + 1 → ll[j]? = some x → goodL d x = true from fun j x hj hx => by
            by_cases e : j = k
            · subst e
              have := Hle.out.symm.trans hx
              cases this
              unfold goodL
              rw [hdu, hlg]
              rfl
            · exact Hgd.out j x (by omega) hx)
          have Hlg := Lib.hid hlg
          clear hdu hyes hyn hyd hlg
          go_wp2_with fail
          refine wp_region_noPanic ?_
          refine wp_region_ph [([0, 1, 2, 3, 4], [5, 6, 7]), ([8, 9, 10, 11, 12], [13, 14, 15])] (fun _ => true) (fun w' => Below wo.heap.size wo w') (by kernel_rfl) (by kernel_rfl) (fun _ _ _ _ _ h => h) ?_
          have hb1q : Below wo.heap.size wo wo.drew := (Below.refl _ _).drew
          have HS1q := Lib.hid hb1q
          obtain ⟨w1q, hwe1q⟩ : ∃ W, W = wo.drew := ⟨_, rfl⟩
          rw [← hwe1q] at hb1q HS1q ⊢
          clear hwe1q
          have hw1q := hwo.trans (hb1q.mono hwo.size)
          have G1q := Lib.hid (box_step hb1q Go.out)
          replace gc := box_cells G1q.out
          replace gf := box_frozen G1q.out
          refine wpPh_cons HS1q.out (fun hne => ?_)
          have n0 := fun x : Meets (fun w' => Below wo.heap.size wo w') => cell_below x.property (box_cells Go.out 0)
          have n1 := fun x : Meets (fun w' => Below wo.heap.size wo w') => cell_below x.property (box_cells Go.out 1)
          have n2 := fun x : Meets (fun w' => Below wo.heap.size wo w') => cell_below x.property (box_cells Go.out 2)
          have n3 := fun x : Meets (fun w' => Below wo.heap.size wo w') => cell_below x.property (box_cells Go.out 3)
          have n4 := fun x : Meets (fun w' => Below wo.heap.size wo w') => cell_below x.property (box_cells Go.out 4)
          have n5 := fun x : Meets (fun w' => Below wo.heap.size wo w') => cell_below x.property (box_cells Go.out 5)
          have n6 := fun x : Meets (fun w' => Below wo.heap.size wo w') => cell_below x.property (box_cells Go.out 6)
          have n7 := fun x : Meets (fun w' => Below wo.heap.size wo w') => cell_below x.property (box_cells Go.out 7)
          have n8 := fun x : Meets (fun w' => Below wo.heap.size wo w') => cell_below x.property (box_cells Go.out 8)
          have n9 := fun x : Meets (fun w' => Below wo.heap.size wo w') => cell_below x.property (box_cells Go.out 9)
          have n10 := fun x : Meets (fun w' => Below wo.heap.size wo w') => cell_below x.property (cl)
          simp only [pick, pickN, List.filterMap_cons, List.filterMap_nil, List.getElem?_cons_zero, List.getElem?_cons_succ, Option.map_some]
          repeat (change wpQuiet _ _ _ _ (_ :: _) _; go_big_quiet_step (fail))
          refine wpQuiet_nil ?_
          clear n0 n1 n2 n3 n4 n5 n6 n7 n8 n9 n10 hne
          refine wpSeqK_step (fun K hK => ?_)
          go_simp
          refine (Gives.to Hdu.out (IsDuty_any d _ _ _ l _ (Hda.out.below hw1q) Hd.out (Hnl.out.below HS1q.out) hll)).mono ?_
          rintro e w2q ⟨rfl, hb2q⟩
          have HS2q := Lib.hid (HS1q.out.trans (hb2q.mono HS1q.out.size))
          have hw2q := hw1q.trans (hb2q.mono hw1q.size)
          have G2q := Lib.hid (box_step hb2q G1q.out)
          replace gc := box_cells G2q.out
          replace gf := box_frozen G2q.out
          refine hK.out _ _ (fun _ => HS2q.out) ?_
          clear hK K
          refine wpSeqK_step (fun K hK => ?_)
          go_simp
          refine hK.out _ _ (fun _ => HS2q.out) ?_
          clear hK K
          refine wpSeqK_step (fun K hK => ?_)
          go_simp
          refine hK.out _ _ (fun _ => HS2q.out) ?_
          clear hK K
          refine wpSeqK_nil ?_
          refine wpPh_cons HS2q.out (fun hne => ?_)
          have n0 := fun x : Meets (fun w' => Below wo.heap.size wo w') => cell_below x.property (box_cells Go.out 0)
          have n1 := fun x : Meets (fun w' => Below wo.heap.size wo w') => cell_below x.property (box_cells Go.out 1)
          have n2 := fun x : Meets (fun w' => Below wo.heap.size wo w') => cell_below x.property (box_cells Go.out 2)
          have n3 := fun x : Meets (fun w' => Below wo.heap.size wo w') => cell_below x.property (box_cells Go.out 3)
          have n4 := fun x : Meets (fun w' => Below wo.heap.size wo w') => cell_below x.property (box_cells Go.out 4)
          have n5 := fun x : Meets (fun w' => Below wo.heap.size wo w') => cell_below x.property (box_cells Go.out 5)
          have n6 := fun x : Meets (fun w' => Below wo.heap.size wo w') => cell_below x.property (box_cells Go.out 6)
          have n7 := fun x : Meets (fun w' => Below wo.heap.size wo w') => cell_below x.property (box_cells Go.out 7)
          have n8 := fun x : Meets (fun w' => Below wo.heap.size wo w') => cell_below x.property (box_cells Go.out 8)
          have n9 := fun x : Meets (fun w' => Below wo.heap.size wo w') => cell_below x.property (box_cells Go.out 9)
          have n10 := fun x : Meets (fun w' => Below wo.heap.size wo w') => cell_below x.property (cl)
          simp only [pick, pickN, List.filterMap_cons, List.filterMap_nil, List.getElem?_cons_zero, List.getElem?_cons_succ, Option.map_some]
          repeat (change wpQuiet _ _ _ _ (_ :: _) _; go_big_quiet_step (fail))
          refine wpQuiet_nil ?_
          clear n0 n1 n2 n3 n4 n5 n6 n7 n8 n9 n10 hne
          refine wpSeqK_step (fun K hK => ?_)
          go_simp
          refine (Gives.to Hlg.out (Legal_ref d _ _ _ (natsOf l) _ (Hda.out.below hw2q) Hd.out ((by rw [← Hyn.out]; exact Hnl.out.below (HS1q.out.trans (hb2q.mono HS1q.out.size)))) Hyes.out)).mono ?_
          rintro e w3q ⟨rfl, hb3q⟩
          have HS3q := Lib.hid (HS2q.out.trans (hb3q.mono HS2q.out.size))
          have hw3q := hw2q.trans (hb3q.mono hw2q.size)
          have G3q := Lib.hid (box_step hb3q G2q.out)
          replace gc := box_cells G3q.out
          replace gf := box_frozen G3q.out
          refine hK.out _ _ (fun _ => HS3q.out) ?_
          clear hK K
          refine wpSeqK_step (fun K hK => ?_)
          go_simp
          refine hK.out _ _ (fun _ => HS3q.out) ?_
          clear hK K
          refine wpSeqK_step (fun K hK => ?_)
          go_simp
          refine hK.out _ _ (fun _ => HS3q.out) ?_
          clear hK K
          refine wpSeqK_nil ?_
          refine wpPh_nil ?_
          refine NoPanic.normal ?_
          go_wp2_with fail
          go_roundw
          case rel => exact ⟨k + 1, by omega, by go_num, hw3q, G3q.out, Hgd2⟩
          case measure => simp [intOf]; omega
    · obtain rfl : k = ll.length := by omega
      have hkI : ¬ (ll.length : Int) < (ll.length : Int) := by omega
      go_wp2_with fail
      go_loopw [6] (fun i wr => ∃ m : Nat, m ≤ segN d.blocks ∧ i = .int .i64 m ∧ Below w.heap.size w wr ∧ wr.heap[w.heap.size]? = some (.cells #[.int .i64 d.law.piece, .int .i64 d.law.drive, .int .i64 d.law.spread, .int .i64 d.law.brk, .int .i64 d.law.on, .int .i64 d.law.off, .int .i64 d.law.least, .int .i64 d.law.pieces, .slice A1 d.blocks.length c1, .slice A2 d.walk.length c2] 27 (0, 0)) ∧ Hid (∀ s, s < m → (cntI ll s == 1) = true)) (fun i wr => segN d.blocks - (intOf i).toNat)
      case atStart => exact ⟨0, by omega, rfl, hwo, Go.out, fun s hs => absurd hs (by omega)⟩
      case round =>
        obtain ⟨m, hmk, rfl, hwp, hbx, Hct⟩ := hrel
        obtain ⟨wp, rfl⟩ : ∃ wp : World, wp = wr := ⟨_, rfl⟩
        have Gp := Lib.hid hbx
        replace gc := box_cells Gp.out
        replace gf := box_frozen Gp.out
        clear hbx
        have Hseg := Lib.hid (Segments_any d _ _ wp (Hda.out.below hwp) hm)
        by_cases hlt : m < segN d.blocks
        · have hmI : (m : Int) < (segN d.blocks : Int) := by omega
          have Hct0 := Lib.hid hlt
          go_wp2_with fail
          refine Hseg.out.mono ?_
          rintro e w1q ⟨rfl, hb1q⟩
          have hw1q := hwp.trans (hb1q.mono hwp.size)
          have Gq := Lib.hid (box_step hb1q Gp.out)
          have Hv1 := Lib.hid (Hv.out.below hw1q)
          clear Hseg
          go_wp2_with fail
          go_loop [7, 8] (fun n i => ∃ j : Nat, j ≤ ll.length ∧ i = .int .i64 j ∧ n = .int .i64 (cntI (ll.take j) m : Int)) (fun n i => ll.length - (intOf i).toNat)
          case atStart => exact ⟨0, by omega, rfl, rfl⟩
          case round =>
            obtain ⟨j, hj, rfl, rfl⟩ := hrel
            by_cases hlj : j < ll.length
            · have hjI : (j : Int) < (ll.length : Int) := by omega
              obtain ⟨b, o, l, y, rfl, hl, cl, hnl, _⟩ := Hv1.out.at_ hlj
              have Hst := Lib.hid (cntI_take (s := m) hl)
              have Hhas := Lib.hid (Has_any _ _ (m : Int) _ hnl)
              have hcl := cntI_le (ll.take j) m
              have hlt2 : (ll.take j).length ≤ j := List.length_take_le _ _
              generalize cntI (ll.take j) m = C at *
              generalize (ll.take j).length = nt at *
              generalize decide ((m : Int) ∈ l) = HD at *
              clear hl hnl
              cases HD with
              | true =>
                go_wp2_with fail
                refine Hhas.out.mono ?_
                rintro e w2q ⟨rfl, rfl⟩
                go_wp2_with fail
                go_round
                case rel => exact ⟨j + 1, by omega, by go_num, by rw [Hst.out]; go_num⟩
                case measure => simp [intOf]; omega
              | false =>
                go_wp2_with fail
                refine Hhas.out.mono ?_
                rintro e w2q ⟨rfl, rfl⟩
                go_wp2_with fail
                go_round
                case rel => exact ⟨j + 1, by omega, by go_num, by rw [Hst.out]; rfl⟩
                case measure => simp [intOf]; omega
            · obtain rfl : j = ll.length := by omega
              have hjI : ¬ (ll.length : Int) < (ll.length : Int) := by omega
              have HT := Lib.hid (show ll.take ll.length = ll by rw [List.take_length])
              rw [HT.out]
              by_cases hc1 : cntI ll m = 1
              · have Hct2 := Lib.hid (show ∀ s, s < m + 1 → (cntI ll s == 1) = true from fun s hs => by
                  by_cases e : s = m
                  · subst e; simpa using hc1
                  · exact Hct.out s (by omega))
                rw [hc1]
                clear hc1
                go_wp2_with fail
                go_roundw
                case rel => exact ⟨m + 1, by omega, by go_num, hw1q, Gq.out, Hct2⟩
                case measure => simp [intOf]; omega
              · have Hfin := Lib.hid (isPlan_cnt (ll := ll) Hct0.out (by simpa using hc1))
                have hcI : (((cntI ll m : Nat) : Int) != 1) = true := by simp only [bne_iff_ne, ne_eq]; omega
                clear hc1
                generalize cntI ll m = C at *
                go_wp2_with fail
                go_ret
                exact gives_bool Hfin.out.symm hw1q
        · obtain rfl : m = segN d.blocks := by omega
          have hmI : ¬ (segN d.blocks : Int) < (segN d.blocks : Int) := by omega
          have Hfin := Lib.hid (isPlan_all (d := d) (ll := ll) (fun l hl => by
            obtain ⟨j, hj, e⟩ := List.getElem_of_mem hl
            exact Hgd.out j l hj (by rw [← e]; exact List.getElem?_eq_getElem hj)) Hct.out)
          go_wp2_with fail
          refine Hseg.out.mono ?_
          rintro e w1q ⟨rfl, hb1q⟩
          have hw1q := hwp.trans (hb1q.mono hwp.size)
          go_wp2_with fail
          go_ret
          exact gives_bool Hfin.out.symm hw1q
def payS (d : DDay) (plan : List (List Nat)) : Int := sumI (plan.map (payL d))
theorem payS_take {d : DDay} {plan : List (List Nat)} {k : Nat} {l : List Nat} (h : plan[k]? = some l) : payS d (plan.take (k + 1)) = payS d (plan.take k) + payL d l := by
  have e : plan.take (k + 1) = plan.take k ++ [l] := by
    rw [List.take_add_one, h]; rfl
  unfold payS
  rw [e, List.map_append, sumI_append]
  simp [sumI]
theorem payL_bd {d : DDay} (hd : DayOk d) {l : List Nat} (hl : IsDuty d l) : 0 ≤ payL d l ∧ payL d l ≤ 20000 := by
  have h := payX_bd hd (maskL l)
  unfold payX at h
  rwa [bitsL_mask hl.rise hl.lt] at h
theorem payS_bd {d : DDay} (hd : DayOk d) : ∀ (plan : List (List Nat)), (∀ l ∈ plan, IsDuty d l) → 0 ≤ payS d plan ∧ payS d plan ≤ 20000 * (plan.length : Int)
  | [], _ => by simp [payS, sumI]
  | l :: t, h => by
    have h1 := payL_bd hd (h l (by simp))
    have h2 := payS_bd hd t (fun x hx => h x (by simp [hx]))
    unfold payS at h2 ⊢
    simp only [List.map_cons, sumI, List.length_cons]
    push_cast
    omega
set_option maxRecDepth 100000 in
set_option maxHeartbeats 3200000 in
theorem PlanPay_any (d : DDay) (u z v : Value) (plan : List (List Nat)) (w : World) (hda : DayAt w u z d) (hd : DayOk d) (hv : RowsAt w v (plan.map natsI)) (hn : plan.length ≤ 2000) (hl : ∀ l ∈ plan, IsDuty d l) :
    Calls Tryz.prog 32 #[.agg #[.int .i64 d.law.piece, .int .i64 d.law.drive, .int .i64 d.law.spread, .int .i64 d.law.brk, .int .i64 d.law.on, .int .i64 d.law.off, .int .i64 d.law.least, .int .i64 d.law.pieces, u, z], v] w (Gives w (.int .i64 (payS d plan))) := by
  obtain ⟨A1, c1, rfl, _, _⟩ := hda.blocks.form
  obtain ⟨A2, c2, rfl, _, _⟩ := hda.walk.form
  obtain ⟨A3, c3, rfl, hc3, hm3⟩ := hv.form
  have hw0 : Below w.heap.size w (w.alloc (.cells #[.int .i64 d.law.piece, .int .i64 d.law.drive, .int .i64 d.law.spread, .int .i64 d.law.brk, .int .i64 d.law.on, .int .i64 d.law.off, .int .i64 d.law.least, .int .i64 d.law.pieces, .slice A1 d.blocks.length c1, .slice A2 d.walk.length c2] 27)) := (Below.refl _ _).alloc (Nat.le_refl _) _
  have G0 := Lib.hid (heap_alloc_new w (.cells #[.int .i64 d.law.piece, .int .i64 d.law.drive, .int .i64 d.law.spread, .int .i64 d.law.brk, .int .i64 d.law.on, .int .i64 d.law.off, .int .i64 d.law.least, .int .i64 d.law.pieces, .slice A1 d.blocks.length c1, .slice A2 d.walk.length c2] 27 (0, 0)))
  have Hda := Lib.hid hda
  have Hv := Lib.hid hv
  have Hd := Lib.hid hd
  have Hl := Lib.hid hl
  have HLn := Lib.hid (show (plan.map natsI).length = plan.length by simp)
  rw [HLn.out] at hc3 ⊢
  clear hda hd hv hl hc3 hm3
  go_enter Tryz.func32, Tryz.ntmps32
  go_wp2_with fail
  go_loopw [5, 6] (fun n i wr => ∃ k : Nat, k ≤ plan.length ∧ i = .int .i64 k ∧ n = .int .i64 (payS d (plan.take k)) ∧ Below w.heap.size w wr ∧ wr.heap[w.heap.size]? = some (.cells #[.int .i64 d.law.piece, .int .i64 d.law.drive, .int .i64 d.law.spread, .int .i64 d.law.brk, .int .i64 d.law.on, .int .i64 d.law.off, .int .i64 d.law.least, .int .i64 d.law.pieces, .slice A1 d.blocks.length c1, .slice A2 d.walk.length c2] 27 (0, 0))) (fun n i wr => plan.length - (intOf i).toNat)
  case atStart => exact ⟨0, by omega, rfl, rfl, hw0, G0.out⟩
  case round =>
    obtain ⟨k, hk, rfl, rfl, hwo, hbx⟩ := hrel
    obtain ⟨wo, rfl⟩ : ∃ wo : World, wo = wr := ⟨_, rfl⟩
    have Go := Lib.hid hbx
    have gc := box_cells Go.out
    have gf := box_frozen Go.out
    clear hbx
    by_cases hlt : k < plan.length
    · obtain ⟨b, o, l, y, rfl, hl, cl, hnl, _⟩ := (Hv.out.below hwo).at_ (k := k) (by rw [HLn.out]; exact hlt)
      rw [List.getElem?_map] at hl
      obtain ⟨D, hD, rfl⟩ := Option.map_eq_some_iff.1 hl
      have Hdu := Lib.hid (Hl.out D (List.mem_of_getElem? hD))
      have hpb := payL_bd Hd.out Hdu.out
      have hsb := payS_bd Hd.out (plan.take k) (fun x hx => Hl.out x (List.mem_of_mem_take hx))
      have Hst := Lib.hid (payS_take (d := d) hD)
      have hlt2 : (plan.take k).length ≤ k := List.length_take_le _ _
      have Hnl := Lib.hid hnl
      obtain ⟨A4, c4, rfl, _, _⟩ := hnl.form
      have hkI : (k : Int) < (plan.length : Int) := by omega
      generalize hP : payL d D = PD at *
      have HP := Lib.hid hP
      generalize payS d (plan.take k) = SP at *
      generalize (plan.take k).length = nt at *
      generalize (natsI D).length = nl at *
      clear hl hnl hD hP
      have hwr : IntKind.i64.wrap (SP + PD) = SP + PD := IntWalk.i64_in _ (by omega)
      go_wp2_with fail
      refine wp_region_noPanic ?_
      refine wp_region_ph [([0, 1, 2, 3, 4, 5], [6, 7, 8])] (fun _ => true) (fun w' => Below wo.heap.size wo w') (by kernel_rfl) (by kernel_rfl) (fun _ _ _ _ _ h => h) ?_
      have hb1q : Below wo.heap.size wo wo.drew := (Below.refl _ _).drew
      have HS1q := Lib.hid hb1q
      obtain ⟨w1q, hwe1q⟩ : ∃ W, W = wo.drew := ⟨_, rfl⟩
      rw [← hwe1q] at hb1q HS1q ⊢
      clear hwe1q
      have hw1q := hwo.trans (hb1q.mono hwo.size)
      have G1q := Lib.hid (box_step hb1q Go.out)
      replace gc := box_cells G1q.out
      replace gf := box_frozen G1q.out
      refine wpPh_cons HS1q.out (fun hne => ?_)
      have n0 := fun x : Meets (fun w' => Below wo.heap.size wo w') => cell_below x.property (box_cells Go.out 0)
      have n1 := fun x : Meets (fun w' => Below wo.heap.size wo w') => cell_below x.property (box_cells Go.out 1)
      have n2 := fun x : Meets (fun w' => Below wo.heap.size wo w') => cell_below x.property (box_cells Go.out 2)
      have n3 := fun x : Meets (fun w' => Below wo.heap.size wo w') => cell_below x.property (box_cells Go.out 3)
      have n4 := fun x : Meets (fun w' => Below wo.heap.size wo w') => cell_below x.property (box_cells Go.out 4)
      have n5 := fun x : Meets (fun w' => Below wo.heap.size wo w') => cell_below x.property (box_cells Go.out 5)
      have n6 := fun x : Meets (fun w' => Below wo.heap.size wo w') => cell_below x.property (box_cells Go.out 6)
      have n7 := fun x : Meets (fun w' => Below wo.heap.size wo w') => cell_below x.property (box_cells Go.out 7)
      have n8 := fun x : Meets (fun w' => Below wo.heap.size wo w') => cell_below x.property (box_cells Go.out 8)
      have n9 := fun x : Meets (fun w' => Below wo.heap.size wo w') => cell_below x.property (box_cells Go.out 9)
      have n10 := fun x : Meets (fun w' => Below wo.heap.size wo w') => cell_below x.property (cl)
      simp only [pick, pickN, List.filterMap_cons, List.filterMap_nil, List.getElem?_cons_zero, List.getElem?_cons_succ, Option.map_some]
      repeat (change wpQuiet _ _ _ _ (_ :: _) _; go_big_quiet_step (fail))
      refine wpQuiet_nil ?_
      clear n0 n1 n2 n3 n4 n5 n6 n7 n8 n9 n10 hne
      refine wpSeqK_step (fun K hK => ?_)
      go_simp
      refine (HP.out ▸ Pay_ref d _ _ _ D _ (Hda.out.below hw1q) Hd.out (Hnl.out.below HS1q.out) Hdu.out).mono ?_
      rintro e w2q ⟨rfl, hb2q⟩
      have HS2q := Lib.hid (HS1q.out.trans (hb2q.mono HS1q.out.size))
      have hw2q := hw1q.trans (hb2q.mono hw1q.size)
      have G2q := Lib.hid (box_step hb2q G1q.out)
      replace gc := box_cells G2q.out
      replace gf := box_frozen G2q.out
      refine hK.out _ _ (fun _ => HS2q.out) ?_
      clear hK K
      refine wpSeqK_step (fun K hK => ?_)
      go_simp
      refine hK.out _ _ (fun _ => HS2q.out) ?_
      clear hK K
      refine wpSeqK_step (fun K hK => ?_)
      go_simp
      refine hK.out _ _ (fun _ => HS2q.out) ?_
      clear hK K
      refine wpSeqK_nil ?_
      refine wpPh_nil ?_
      refine NoPanic.normal ?_
      go_wp2_with fail
      go_roundw
      case rel => exact ⟨k + 1, by omega, by go_num, by rw [Hst.out], hw2q, G2q.out⟩
      case measure => simp [intOf]; omega
    · obtain rfl : k = plan.length := by omega
      have hkI : ¬ (plan.length : Int) < (plan.length : Int) := by omega
      have HT := Lib.hid (show plan.take plan.length = plan by rw [List.take_length])
      rw [HT.out]
      go_wp2_with fail
      go_ret
      exact ⟨rfl, hwo⟩
end Go.Proofs.YtllobkhdeahgpaaGreat
