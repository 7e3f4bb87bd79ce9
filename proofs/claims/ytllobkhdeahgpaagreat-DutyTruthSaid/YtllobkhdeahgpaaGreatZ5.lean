import Derived.Test.YtllobkhdeahgpaaGreatZ4
set_option linter.unusedVariables false
set_option linter.unusedSimpArgs false
namespace Go.Proofs.YtllobkhdeahgpaaGreat
open Go Go.Proofs Go.RowKit

theorem prCells_set : ∀ {L : List Pc} {k : Nat} (y : Pc), k < L.length → ((((prCells L).set (k * 4) (.int .i64 (y.b : Int))).set (k * 4 + 1) (.int .i64 (y.fr : Int))).set (k * 4 + 2) (.int .i64 (y.to : Int))).set (k * 4 + 3) (.int .i64 (y.first : Int)) = prCells (L.set k y)
  | [], k, y, h => by simp at h
  | z :: t, 0, y, _ => by simp [prCells, prC]
  | z :: t, k + 1, y, h => by
    have ih := prCells_set (L := t) (k := k) y (by simpa using h)
    have e : prCells (z :: t) = prC z ++ prCells t := by simp [prCells]
    have e2 : prCells ((z :: t).set (k + 1) y) = prC z ++ prCells (t.set k y) := by simp [prCells]
    have hl : (prC z).length = 4 := rfl
    rw [e, e2, ← ih]
    rw [List.set_append_right _ _ (by omega), List.set_append_right _ _ (by omega), List.set_append_right _ _ (by omega), List.set_append_right _ _ (by omega), hl]
    rw [show (k + 1) * 4 - 4 = k * 4 by omega, show (k + 1) * 4 + 1 - 4 = k * 4 + 1 by omega, show (k + 1) * 4 + 2 - 4 = k * 4 + 2 by omega, show (k + 1) * 4 + 3 - 4 = k * 4 + 3 by omega]
theorem wpAnyF_weak {P : Program} {md : Region.Mode} {ops : Array Oper} {Q : Exit → Act → World → Prop} {S : World → Prop} {kp kp' : Nat → Bool} : ∀ (fuel : Nat) (listed : Array Bool) (a : Act) (w : World), wpAnyF P md ops Q S kp fuel listed a w → wpAnyF P md ops Q (fun _ => True) kp' fuel listed a w
  | 0, _, _, _, h => h
  | fuel + 1, listed, a, w, h => ⟨h.1, fun i hi => wpOp_mono (fun a' w' h' => ⟨fun _ => trivial, wpAnyF_weak fuel _ a' w' h'.2⟩) (h.2 i hi)⟩
theorem wpAnyF_name {P : Program} {md : Region.Mode} {ops : Array Oper} {Q : Exit → Act → World → Prop} {S : World → Prop} {kp : Nat → Bool} {fuel : Nat} {listed : Array Bool} {a : Act} {w : World} (F : World → Prop) (h : F w) (hk : ∀ W, F W → wpAnyF P md ops Q S kp fuel listed a W) : wpAnyF P md ops Q S kp fuel listed a w := hk w h
set_option maxRecDepth 100000 in
set_option maxHeartbeats 6400000 in
theorem Pieces_any (d : DDay) (u z v : Value) (l : List Nat) (w : World) (hda : DayAt w u z d) (hd : DayOk d) (hv : NumsAt .i64 w v (natsI l)) (hl : IsDuty d l) :
    Calls Tryz.prog 39 #[.agg #[.int .i64 d.law.piece, .int .i64 d.law.drive, .int .i64 d.law.spread, .int .i64 d.law.brk, .int .i64 d.law.on, .int .i64 d.law.off, .int .i64 d.law.least, .int .i64 d.law.pieces, u, z], v] w (GivesPcs w (piecesL d l)) := by
  have hm := day_mild hd
  have hsn := hd.segs
  have hll := duty_len hl
  obtain ⟨A1, c1, rfl, _, _⟩ := hda.blocks.form
  obtain ⟨A2, c2, rfl, _, _⟩ := hda.walk.form
  obtain ⟨A3, c3, rfl, hc3, hm3⟩ := hv.form
  obtain ⟨i0, hi0, hz0, hz1, hz2⟩ := info_parts infoPr
  have hnl := natsI_len l
  have hw0 : Below w.heap.size w (w.alloc (.cells #[.int .i64 d.law.piece, .int .i64 d.law.drive, .int .i64 d.law.spread, .int .i64 d.law.brk, .int .i64 d.law.on, .int .i64 d.law.off, .int .i64 d.law.least, .int .i64 d.law.pieces, .slice A1 d.blocks.length c1, .slice A2 d.walk.length c2] 27)) := (Below.refl _ _).alloc (Nat.le_refl _) _
  have G0 := Lib.hid (heap_alloc_new w (.cells #[.int .i64 d.law.piece, .int .i64 d.law.drive, .int .i64 d.law.spread, .int .i64 d.law.brk, .int .i64 d.law.on, .int .i64 d.law.off, .int .i64 d.law.least, .int .i64 d.law.pieces, .slice A1 d.blocks.length c1, .slice A2 d.walk.length c2] 27 (0, 0)))
  have Hda := Lib.hid hda
  have Hv := Lib.hid hv
  have Hd := Lib.hid hd
  have Hl := Lib.hid hl
  rw [hnl] at Hv ⊢
  clear hda hv hd hl hnl hc3
  go_enter Tryz.func39, Tryz.ntmps39
  go_wp2
  go_loopw [5, 6] (fun v i wr => ∃ (k : Nat) (A : Option Addr) (c : Nat), k ≤ l.length ∧ i = .int .i64 k ∧ v = .slice A (rawP (segs d.blocks) (l.take k)).length c ∧ Below w.heap.size w wr ∧ wr.heap[w.heap.size]? = some (.cells #[.int .i64 d.law.piece, .int .i64 d.law.drive, .int .i64 d.law.spread, .int .i64 d.law.brk, .int .i64 d.law.on, .int .i64 d.law.off, .int .i64 d.law.least, .int .i64 d.law.pieces, .slice A1 d.blocks.length c1, .slice A2 d.walk.length c2] 27 (0, 0)) ∧
    wr.ownsRow w.heap.size 125 4 v (rawP (segs d.blocks) (l.take k)).length (prCells (rawP (segs d.blocks) (l.take k)))) (fun v i wr => l.length - (intOf i).toNat)
  case atStart => exact ⟨0, none, 0, by omega, rfl, rfl, hw0, G0.out, World.ownsRow_nil _ _ _ _⟩
  case round =>
    obtain ⟨k, A, c, hk, rfl, rfl, hb, hbx, hown⟩ := hrel
    obtain ⟨wo, rfl⟩ : ∃ wo : World, wo = wr := ⟨_, rfl⟩
    have Go := Lib.hid hbx
    have Hown := Lib.hid hown
    have gc := box_cells Go.out
    have gf := box_frozen Go.out
    have hwo := hb
    clear hbx hown
    by_cases hlt : k < l.length
    · obtain ⟨b1, o1, y, rfl, hy, cy, _⟩ := (Hv.out.below hwo).at_ (k := k) (by rw [natsI_len]; exact hlt)
      obtain ⟨n, rfl, hn⟩ := natsI_get hy
      have hns := Hl.out.lt n (List.mem_of_getElem? hn)
      obtain ⟨b, i, hsg, hbb, hii, hoff⟩ := segs_some hns
      have htk : l.take (k + 1) = l.take k ++ [n] := by rw [List.take_add_one, hn, Option.toList_some]
      have hraw : rawP (segs d.blocks) (l.take (k + 1)) = addP (rawP (segs d.blocks) (l.take k)) (b, i) n := by rw [htk, rawP_snoc, hsg]; rfl
      have hrt : (l.take k).Pairwise (· < ·) := List.Pairwise.sublist (List.take_sublist _ _) Hl.out.rise
      have hlt2 : ∀ x ∈ l.take k, x < segN d.blocks := fun x hx => Hl.out.lt x (List.mem_of_mem_take hx)
      have hrl : (rawP (segs d.blocks) (l.take k)).length ≤ 10 := by
        have := rawP_le (segs d.blocks) (l.take k)
        rw [List.length_take] at this
        omega
      have hib := hm.block b _ (List.getElem?_eq_getElem hbb)
      rw [List.getElem?_eq_getElem hbb, Option.getD_some] at hii
      have hi1000 : i ≤ 1000 := by omega
      have hbm := hm.blocks
      have hb1000 : b ≤ 1000 := by omega
      have hkI : (k : Int) < (l.length : Int) := by omega
      have Hsg := Lib.hid hsg
      have Hraw := Lib.hid hraw
      have Hrt := Lib.hid hrt
      have Hlt2 := Lib.hid hlt2
      have Hn := Lib.hid hn
      have Hy := Lib.hid hy
      clear hsg hraw hrt hlt2 hn hy htk hii hoff hib
      go_wp2_with fail
      refine wp_region_noPanic ?_
      refine wp_region_ph [([0, 1, 2, 3, 4], [5]), ([6, 7, 8], [9, 10])] (fun _ => true) (fun w' => Below wo.heap.size wo w') (by kernel_rfl) (by kernel_rfl) (fun _ _ _ _ _ h => h) ?_
      have hb1 : Below wo.heap.size wo wo.drew := (Below.refl _ _).drew
      have HS1 := Lib.hid hb1
      obtain ⟨w1, hwe1⟩ : ∃ W, W = wo.drew := ⟨_, rfl⟩
      rw [← hwe1] at hb1 HS1 ⊢
      clear hwe1
      have hw1 := hwo.trans (hb1.mono hwo.size)
      have G1 := Lib.hid (box_step hb1 Go.out)
      replace gc := box_cells G1.out
      replace gf := box_frozen G1.out
      refine wpPh_cons HS1.out (fun hne => ?_)
      have n0 := fun x : Meets (fun w' => Below wo.heap.size wo w') => cell_below x.property (box_cells Go.out 0)
      have n1 := fun x : Meets (fun w' => Below wo.heap.size wo w') => cell_below x.property (box_cells Go.out 1)
      have n2 := fun x : Meets (fun w' => Below wo.heap.size wo w') => cell_below x.property (box_cells Go.out 2)
      have n3 := fun x : Meets (fun w' => Below wo.heap.size wo w') => cell_below x.property (box_cells Go.out 3)
      have n4 := fun x : Meets (fun w' => Below wo.heap.size wo w') => cell_below x.property (box_cells Go.out 4)
      have n5 := fun x : Meets (fun w' => Below wo.heap.size wo w') => cell_below x.property (box_cells Go.out 5)
      have n6 := fun x : Meets (fun w' => Below wo.heap.size wo w') => cell_below x.property (box_cells Go.out 6)
      have n7 := fun x : Meets (fun w' => Below wo.heap.size wo w') => cell_below x.property (box_cells Go.out 7)
      have n8 := fun x : Meets (fun w' => Below wo.heap.size wo w') => cell_below x.property (box_cells Go.out 8)
      have n9 := fun x : Meets (fun w' => Below wo.heap.size wo w') => cell_below x.property (box_cells Go.out 9)
      have n10 := fun x : Meets (fun w' => Below wo.heap.size wo w') => cell_below x.property (cy)
      simp only [pick, pickN, List.filterMap_cons, List.filterMap_nil, List.getElem?_cons_zero, List.getElem?_cons_succ, Option.map_some]
      repeat (change wpQuiet _ _ _ _ (_ :: _) _; go_big_quiet_step (fail))
      refine wpQuiet_nil ?_
      clear n0 n1 n2 n3 n4 n5 n6 n7 n8 n9 n10 hne
      refine wpSeqK_step (fun K hK => ?_)
      go_simp
      refine (Spot_any d _ _ n b i _ (Hda.out.below hw1) hm Hd.out Hsg.out (by omega)).mono ?_
      rintro e w2 ⟨rfl, hb2⟩
      have HS2 := Lib.hid (HS1.out.trans (hb2.mono HS1.out.size))
      have hw2 := hw1.trans (hb2.mono hw1.size)
      have G2 := Lib.hid (box_step hb2 G1.out)
      replace gc := box_cells G2.out
      replace gf := box_frozen G2.out
      refine hK.out _ _ (fun _ => HS2.out) ?_
      clear hK K
      refine wpSeqK_nil ?_
      refine wpPh_cons HS2.out (fun hne => ?_)
      simp only [pick, pickN, List.filterMap_cons, List.filterMap_nil, List.getElem?_cons_zero, List.getElem?_cons_succ, Option.map_some]
      repeat (change wpQuiet _ _ _ _ (_ :: _) _; go_big_quiet_step (fail))
      refine wpQuiet_nil ?_
      clear  hne
      refine wpSeqK_step (fun K hK => ?_)
      go_simp
      refine hK.out _ _ (fun _ => HS2.out) ?_
      clear hK K
      refine wpSeqK_step (fun K hK => ?_)
      go_simp
      refine hK.out _ _ (fun _ => HS2.out) ?_
      clear hK K
      refine wpSeqK_nil ?_
      refine wpPh_nil ?_
      refine NoPanic.normal ?_
      have hbz := HS2.out
      have cz := cell_below hbz cy
      have Hoz := Lib.hid (own_below Hown.out hbz)
      have hwz := hw2
      have hsz := hw2.size
      by_cases hk0 : k = 0
      · have hkd : decide (0 < k) = false := by simpa using hk0
        have hR : rawP (segs d.blocks) (l.take k) = [] := by rw [hk0]; rfl
        have hR1 := Hraw.out
        rw [hR] at hR1
        have HR1 := Lib.hid hR1
        have Hoz0 : Hid (w2.ownsRow w.heap.size 125 4 (.slice A 0 c) 0 []) := by have := Hoz.out; rw [hR] at this; exact this
        rw [hR]
        simp only [List.length_nil]
        have Hk0 := Lib.hid hk0
        clear hR hR1 hk0 Hoz Hown
        have fz := Later.cell cz
        go_wp2_with fail
        refine wp_region_later (by kernel_rfl) (by kernel_rfl) ?_
        repeat (go_big_quiet_step (fail))
        refine wpQuiet_nil ?_
        intro w9 hx9
        have hb9 := Later.out hx9
        clear hx9 fz
        have c9 := cell_below hb9 cz
        have Ho9 := Lib.hid (own_below Hoz0.out hb9)
        have hw9 := hwz.trans (hb9.mono hwz.size)
        have hs9 := hw9.size
        have G9 := Lib.hid (rd_box_step hb9 G2.out)
        go_wp2_with (at_builtin; go_loud (refine wpList_append_src _ rfl (.tmp 60) (.tmp 70) 66 rfl w.heap.size 125 i0 _ 4 32 Tryz.underlying66 hi0 hz0 hz1 hz2 rfl (by omega) _ 0 _ rfl (Ho9.out.alloc _) (some ⟨w9.heap.size, 0, none⟩) 1 1 (prC ⟨b, i, i + 1, n⟩) rfl (src_newN (m := 1) (size := 4) rfl rfl) (by simp [prC, Value.oneCell']) (by simp [maxLen] <;> omega) (by omega) (by simp <;> omega) ?_; intro v1 w1 hown1 hg1 hat1; have Hg1 := Lib.hid hg1; obtain ⟨AA1, cc1, rfl⟩ := own_form hown1; have Hown1 := Lib.hid hown1; clear hown1 hg1 hat1))
        go_roundw
        case rel =>
          refine ⟨k + 1, AA1, cc1, by omega, by go_num, ?_, (hw9.alloc hw9.size _).grown Hg1.out (by have := hw9.size; simp; omega) fun q hq => (Ho9.out.lt q hq).1, own_grow Ho9.out G9.out (by decide) Hg1.out, ?_⟩
          · rw [HR1.out]; simp [addP]
          · rw [HR1.out]
            have := Hown1.out
            simpa [addP, prCells, prC] using this
        case measure => simp [intOf]; omega
      · obtain ⟨j, hj⟩ : ∃ j, k = j + 1 := ⟨k - 1, by omega⟩
        obtain ⟨b2, o2, y2, e2, hy2, cm, _⟩ := ((Hv.out.below hwz)).at_ (k := j) (by rw [natsI_len]; omega)
        cases e2
        obtain ⟨m, rfl, hm2⟩ := natsI_get hy2
        have hms := Hl.out.lt m (List.mem_of_getElem? hm2)
        have hkd : decide (0 < k) = true := by simp; omega
        have q1 : IntKind.i64.wrap ((k : Int) - 1) = (j : Int) := by rw [IntWalk.i64_in _ (by omega)]; omega
        have q2 : (j : Int) < (l.length : Int) := by omega
        have q3 : (k : Int) - 1 = (j : Int) := by omega
        have q4 : IntKind.i64.wrap ((n : Int) - 1) = (n : Int) - 1 := IntWalk.i64_in _ (by omega)
        have hlast : (l.take k).getLast? = some m := by
          rw [hj, List.take_add_one, hm2, Option.toList_some]
          simp
        have hne := (raw_ok (l.take k) Hrt.out Hlt2.out).nonempty (by intro e; rw [e] at hlast; simp at hlast)
        have hrt2 := fun (p : Pc) (hp : (rawP (segs d.blocks) (l.take k)).getLast? = some p) => raw_test Hrt.out Hlt2.out hp hlast Hsg.out
        generalize rawP (segs d.blocks) (l.take k) = R at *
        rcases List.eq_nil_or_concat R with rfl | ⟨ps, p, rfl⟩
        · exact absurd rfl hne
        simp only [List.concat_eq_append] at *
        have htest := hrt2 p (by simp)
        have hadd := addP_last ps p (b, i) n
        have hlen : (ps ++ [p]).length = ps.length + 1 := by simp
        rw [hlen] at Hoz hrl ⊢
        have hO := Hoz.out
        obtain ⟨g, rfl, hgb, hgl⟩ := own_some hO (by omega)
        have r0 := hO.cellAt (ps.length * 4) (by omega)
        rw [show ps.length * 4 = ps.length * 4 + 0 by omega, prCells_get (k := ps.length) (p := p) (by simp) (by omega)] at r0
        have fr2 := hO.frozenAt (ps.length * 4 + 2)
        have r2 := hO.cellAt (ps.length * 4 + 2) (by omega)
        rw [prCells_get (k := ps.length) (p := p) (by simp) (by omega)] at r2
        simp only [prC, List.getElem?_cons_succ, List.getElem?_cons_zero, Nat.add_zero] at r0 r2
        have hnot := own_not hO G2.out (by decide)
        have hgw : w.heap.size ≠ g := fun e => hnot (by rw [← e]; rfl)
        have Hgw := Lib.hid hgw
        have k2 : IntKind.i64.wrap (ps.length : Int) = (ps.length : Int) := IntWalk.i64_in _ (by omega)
        have k3 : (ps.length : Int) < (ps.length : Int) + 1 := by omega
        have fz := Later.cell cz
        have fm := Later.cell cm
        have f0 := Later.cell r0
        have Htest := Lib.hid htest
        have Hadd := Lib.hid hadd
        clear htest hadd hO hne hrt2 hlast hy2 hm2 hlen hnot hgw hj Hown hk0
        by_cases hmn : m + 1 = n
        · have t1 : ((m : Int) == (n : Int) - 1) = true := by simp; omega
          by_cases hpb : p.b = b
          · have t2 : ((p.b : Int) == (b : Int)) = true := by simp [hpb]
            have hadd2 := Hadd.out
            rw [if_pos (Htest.out.2 ⟨hmn, hpb⟩)] at hadd2
            have Hres := Lib.hid (Hraw.out.trans hadd2)
            clear hadd2 hmn
            go_wp2_with fail
            refine wp_region_later (by kernel_rfl) (by kernel_rfl) ?_
            repeat (go_big_quiet_step (fail))
            refine wpQuiet_nil ?_
            intro w9 hx9
            have hb9 := Later.out hx9
            clear hx9 fz fm f0
            have r29 := cell_below hb9 r2
            have f29 : w9.frozen? ⟨g, ps.length * 4 + 2, none⟩ = false := by rw [hb9.frozen (p := ⟨g, ps.length * 4 + 2, none⟩) hgl]; exact fr2
            have Ho9 := Lib.hid (own_below Hoz.out hb9)
            have hw9 := hwz.trans (hb9.mono hwz.size)
            have G9 := Lib.hid (rd_box_step hb9 G2.out)
            go_wp2
            go_roundw
            case rel =>
              have hO3 := (Ho9.out.stored (ps.length * 4 + 2) (.int .i64 ((i : Int) + 1))).1
              have e2 : rawP (segs d.blocks) (l.take (k + 1)) = ps ++ [⟨p.b, p.fr, i + 1, p.first⟩] := Hres.out
              have e3 : (ps ++ [(⟨p.b, p.fr, i + 1, p.first⟩ : Pc)]).length = ps.length + 1 := by simp
              refine ⟨k + 1, some ⟨g, 0, none⟩, c, by omega, by go_num, by rw [e2, e3], hw9.setCell (p := ⟨g, ps.length * 4 + 2, none⟩) hgb _, blk_other G9.out Hgw.out _, ?_⟩
              rw [e2, e3, ← prCells_to]
              exact hO3
            case measure => simp [intOf]; omega
          · have t2 : ((p.b : Int) == (b : Int)) = false := by simp; omega
            have hadd2 := Hadd.out
            rw [if_neg (fun h => hpb (Htest.out.1 h).2)] at hadd2
            have Hres := Lib.hid (Hraw.out.trans hadd2)
            clear hadd2 hmn hpb
            go_wp2_with fail
            refine wp_region_later (by kernel_rfl) (by kernel_rfl) ?_
            repeat (go_big_quiet_step (fail))
            refine wpQuiet_nil ?_
            intro w9 hx9
            have hb9 := Later.out hx9
            clear hx9 fz fm f0
            have c9 := cell_below hb9 cz
            have Ho9 := Lib.hid (own_below Hoz.out hb9)
            have hw9 := hwz.trans (hb9.mono hwz.size)
            have hs9 := hw9.size
            have G9 := Lib.hid (rd_box_step hb9 G2.out)
            go_wp2_with (at_builtin; go_loud (refine wpList_append_src _ rfl (.tmp 60) (.tmp 70) 66 rfl w.heap.size 125 i0 _ 4 32 Tryz.underlying66 hi0 hz0 hz1 hz2 rfl (by omega) _ (ps.length + 1) _ rfl (Ho9.out.alloc _) (some ⟨w9.heap.size, 0, none⟩) 1 1 (prC ⟨b, i, i + 1, n⟩) rfl (src_newN (m := 1) (size := 4) rfl rfl) (by simp [prC, Value.oneCell']) (by simp [maxLen] <;> omega) (by omega) (by simp <;> omega) ?_; intro v1 w1 hown1 hg1 hat1; have Hg1 := Lib.hid hg1; obtain ⟨AA1, cc1, rfl⟩ := own_form hown1; have Hown1 := Lib.hid hown1; clear hown1 hg1 hat1))
            go_roundw
            case rel =>
              refine ⟨k + 1, AA1, cc1, by omega, by go_num, ?_, (hw9.alloc hw9.size _).grown Hg1.out (by have := hw9.size; simp; omega) fun q hq => (Ho9.out.lt q hq).1, own_grow Ho9.out G9.out (by decide) Hg1.out, ?_⟩
              · rw [Hres.out]; simp
              · rw [Hres.out]
                have := Hown1.out
                have e9 : (ps ++ [p, (⟨b, i, i + 1, n⟩ : Pc)]) = (ps ++ [p]) ++ [⟨b, i, i + 1, n⟩] := by simp
                rw [e9, prCells_snoc]
                simpa using this
            case measure => simp [intOf]; omega
        · have t1 : ((m : Int) == (n : Int) - 1) = false := by rw [Bool.eq_false_iff]; simp only [ne_eq, beq_iff_eq]; omega
          have hadd2 := Hadd.out
          rw [if_neg (fun h => hmn (Htest.out.1 h).1)] at hadd2
          have Hres := Lib.hid (Hraw.out.trans hadd2)
          clear hadd2 hmn
          go_wp2_with fail
          refine wp_region_later (by kernel_rfl) (by kernel_rfl) ?_
          repeat (go_big_quiet_step (fail))
          refine wpQuiet_nil ?_
          intro w9 hx9
          have hb9 := Later.out hx9
          clear hx9 fz fm f0
          have c9 := cell_below hb9 cz
          have Ho9 := Lib.hid (own_below Hoz.out hb9)
          have hw9 := hwz.trans (hb9.mono hwz.size)
          have hs9 := hw9.size
          have G9 := Lib.hid (rd_box_step hb9 G2.out)
          go_wp2_with (at_builtin; go_loud (refine wpList_append_src _ rfl (.tmp 60) (.tmp 70) 66 rfl w.heap.size 125 i0 _ 4 32 Tryz.underlying66 hi0 hz0 hz1 hz2 rfl (by omega) _ (ps.length + 1) _ rfl (Ho9.out.alloc _) (some ⟨w9.heap.size, 0, none⟩) 1 1 (prC ⟨b, i, i + 1, n⟩) rfl (src_newN (m := 1) (size := 4) rfl rfl) (by simp [prC, Value.oneCell']) (by simp [maxLen] <;> omega) (by omega) (by simp <;> omega) ?_; intro v1 w1 hown1 hg1 hat1; have Hg1 := Lib.hid hg1; obtain ⟨AA1, cc1, rfl⟩ := own_form hown1; have Hown1 := Lib.hid hown1; clear hown1 hg1 hat1))
          go_roundw
          case rel =>
            refine ⟨k + 1, AA1, cc1, by omega, by go_num, ?_, (hw9.alloc hw9.size _).grown Hg1.out (by have := hw9.size; simp; omega) fun q hq => (Ho9.out.lt q hq).1, own_grow Ho9.out G9.out (by decide) Hg1.out, ?_⟩
            · rw [Hres.out]; simp
            · rw [Hres.out]
              have := Hown1.out
              have e9 : (ps ++ [p, (⟨b, i, i + 1, n⟩ : Pc)]) = (ps ++ [p]) ++ [⟨b, i, i + 1, n⟩] := by simp
              rw [e9, prCells_snoc]
              simpa using this
          case measure => simp [intOf]; omega
    · obtain rfl : k = l.length := by omega
      have hkI : ¬ (l.length : Int) < (l.length : Int) := by omega
      rw [List.take_length] at Hown ⊢
      have hro := raw_ok l Hl.out.rise Hl.out.lt
      have hnd : ((rawP (segs d.blocks) l).map (·.first)).Nodup := hro.asc.imp fun h => Nat.ne_of_lt h
      have hin : ∀ p ∈ rawP (segs d.blocks) l, InDay d p.b p.fr := fun p hp => by
        obtain ⟨k1, k2, k3, _⟩ := hro.ok p hp
        exact ⟨k1, by omega⟩
      have hrl := rawP_le (segs d.blocks) l
      have hpl : piecesL d l = srtP d.blocks (rawP (segs d.blocks) l) := rfl
      have Hnd := Lib.hid hnd
      have Hin := Lib.hid hin
      have Hpl := Lib.hid hpl
      clear hro hnd hin hpl
      generalize rawP (segs d.blocks) l = R at *
      have hst : srtP d.blocks (R.take 0) ++ R.drop 0 = R := rfl
      have Hst := Lib.hid hst
      clear hst gc gf hwo
      go_wp2
      go_loopw [10] (fun j wr => ∃ i : Nat, i ≤ R.length ∧ j = .int .i64 i ∧ Below w.heap.size w wr ∧ wr.heap[w.heap.size]? = some (.cells #[.int .i64 d.law.piece, .int .i64 d.law.drive, .int .i64 d.law.spread, .int .i64 d.law.brk, .int .i64 d.law.on, .int .i64 d.law.off, .int .i64 d.law.least, .int .i64 d.law.pieces, .slice A1 d.blocks.length c1, .slice A2 d.walk.length c2] 27 (0, 0)) ∧ wr.ownsRow w.heap.size 125 4 (.slice A R.length c) R.length (prCells (srtP d.blocks (R.take i) ++ R.drop i))) (fun j wr => R.length - (intOf j).toNat)
      case atStart => exact ⟨0, by omega, rfl, hb, Go.out, by rw [Hst.out]; exact Hown.out⟩
      case round =>
        obtain ⟨i, hi, rfl, hbi, hbxi, howni⟩ := hrel
        obtain ⟨wi, rfl⟩ : ∃ wi : World, wi = wr := ⟨_, rfl⟩
        have Gi := Lib.hid hbxi
        have Hi := Lib.hid howni
        clear hbxi howni
        by_cases hilt : i < R.length
        · obtain ⟨g, rfl, hgb, hgl⟩ := own_some Hi.out (by omega)
          have hx : R[i]? = some R[i] := List.getElem?_eq_getElem hilt
          have hdrop : R.drop i = R[i] :: R.drop (i + 1) := List.drop_eq_getElem_cons hilt
          generalize R[i] = x at *
          have hxd := Hin.out x (List.mem_of_getElem? hx)
          have hSl : (srtP d.blocks (R.take i)).length = i := by rw [(srtP_perm d.blocks (R.take i)).length_eq, List.length_take]; omega
          have hSin : ∀ y ∈ srtP d.blocks (R.take i), InDay d y.b y.fr := fun y hy => Hin.out y (List.mem_of_mem_take ((srtP_perm d.blocks (R.take i)).mem_iff.1 hy))
          have Hdone := Lib.hid (fun (k : Nat) (hk : k ≤ (srtP d.blocks (R.take i)).length) (h1 : ∀ q ∈ (srtP d.blocks (R.take i)).drop k, bef d.blocks x q = true) (h2 : ∀ y, k ≠ 0 → (srtP d.blocks (R.take i))[k - 1]? = some y → bef d.blocks x y = false) => midP_done (bl := d.blocks) Hnd.out hx hk h1 h2)
          have Hdrop := Lib.hid hdrop
          have HSin := Lib.hid hSin
          have hiI : (i : Int) < (R.length : Int) := by omega
          have hTl : (R.drop (i + 1)).length = R.length - (i + 1) := List.length_drop
          clear hx hdrop hSin
          generalize srtP d.blocks (R.take i) = S at *
          generalize hT : R.drop (i + 1) = T at *
          have HT := Lib.hid hT
          clear hT
          have hcell : S ++ R.drop i = midP S x i ++ T := by
            rw [Hdrop.out]
            unfold midP
            rw [← hSl, List.take_length, List.drop_length]
            simp
          have Hcell := Lib.hid hcell
          clear hcell
          go_wp2
          go_loopw [11] (fun j wr => ∃ k : Nat, k ≤ i ∧ j = .int .i64 k ∧ Below w.heap.size w wr ∧ wr.heap[w.heap.size]? = some (.cells #[.int .i64 d.law.piece, .int .i64 d.law.drive, .int .i64 d.law.spread, .int .i64 d.law.brk, .int .i64 d.law.on, .int .i64 d.law.off, .int .i64 d.law.least, .int .i64 d.law.pieces, .slice A1 d.blocks.length c1, .slice A2 d.walk.length c2] 27 (0, 0)) ∧ wr.ownsRow w.heap.size 125 4 (.slice (some ⟨g, 0, none⟩) R.length c) R.length (prCells (midP S x k ++ T)) ∧ ∀ q ∈ S.drop k, bef d.blocks x q = true) (fun j wr => (intOf j).toNat)
          case atStart => exact ⟨i, by omega, rfl, hbi, Gi.out, by rw [← Hcell.out]; exact Hi.out, by rw [← hSl, List.drop_length]; intro q hq; simp at hq⟩
          case round =>
            obtain ⟨k, hk, rfl, hbk, hbxk, hownk, hup⟩ := hrel
            obtain ⟨wq, rfl⟩ : ∃ wq : World, wq = wr := ⟨_, rfl⟩
            have Gq := Lib.hid hbxk
            have Hq := Lib.hid hownk
            have Hup := Lib.hid hup
            have hqs := hbk.size
            clear hbxk hownk hup
            have hnot := own_not Hq.out Gq.out (by decide)
            have hgw : w.heap.size ≠ g := fun e => hnot (by rw [← e]; rfl)
            have Hgw := Lib.hid hgw
            clear hnot hgw
            by_cases hk0 : k = 0
            · have hkd : decide (0 < k) = false := by simpa using hk0
              have hfin := Hdone.out k (by omega) Hup.out (fun y h => absurd hk0 h)
              have Hfin := Lib.hid hfin
              clear hfin hk0
              go_wp2_with fail
              refine wp_region_later (by kernel_rfl) (by kernel_rfl) ?_
              repeat (go_big_quiet_step (fail))
              refine wpQuiet_nil ?_
              intro w9 hx9
              have hb9 := Later.out hx9
              clear hx9
              go_wp2
              go_roundw
              case rel => exact ⟨i + 1, by omega, by go_num, hbk.trans (hb9.mono hqs), rd_box_step hb9 Gq.out, by have h := own_below Hq.out hb9; rw [Hfin.out] at h; rw [HT.out]; exact h⟩
              case measure => simp [intOf]; omega
            · obtain ⟨j, hj⟩ : ∃ j, k = j + 1 := ⟨k - 1, by omega⟩
              have hyS : S[j]? = some S[j] := List.getElem?_eq_getElem (by omega)
              generalize S[j] = y at *
              have hyd := HSin.out y (List.mem_of_getElem? hyS)
              have hlm := midP_len (S := S) (x := x) (k := k) (by omega)
              have hax : (midP S x k ++ T)[k]? = some x := by rw [List.getElem?_append_left (by omega)]; exact midP_at (by omega)
              have hay : (midP S x k ++ T)[j]? = some y := by
                rw [List.getElem?_append_left (by omega)]
                have h := midP_before (S := S) (x := x) (k := j) (by omega)
                rw [← hj] at h
                rw [h]
                exact hyS
              have hkd : decide (0 < k) = true := by simp; omega
              have q1 : IntKind.i64.wrap ((k : Int) - 1) = (j : Int) := by rw [IntWalk.i64_in _ (by omega)]; omega
              have q3 : (k : Int) - 1 = (j : Int) := by omega
              have q4 : (k : Int) < (R.length : Int) := by omega
              have q5 : (j : Int) < (R.length : Int) := by omega
              have hswap := midP_swap (S := S) (x := x) (k := j) hyS T
              rw [← hj] at hswap
              have hkj : j + 1 = k := hj.symm
              have hkl : k < (midP S x k ++ T).length := (List.getElem?_eq_some_iff.1 hax).1
              have hjl : j < (midP S x k ++ T).length := (List.getElem?_eq_some_iff.1 hay).1
              have hcl := prCells_len (midP S x k ++ T)
              have hq1 := Hq.out.1
              have Hcx := Lib.hid (fun o (ho : o < 4) => (Hq.out.cellAt (k * 4 + o) (by omega)).trans (prCells_get hax ho))
              have Hcy := Lib.hid (fun o (ho : o < 4) => (Hq.out.cellAt (j * 4 + o) (by omega)).trans (prCells_get hay ho))
              have Hswap := Lib.hid hswap
              have HyS := Lib.hid hyS
              have Hkj := Lib.hid hkj
              clear hax hay hswap hyS hkj hk0 hj
              have f0 := Later.cell (w := wq) (box_cells Gq.out 0)
              have f1 := Later.cell (w := wq) (box_cells Gq.out 1)
              have f2 := Later.cell (w := wq) (box_cells Gq.out 2)
              have f3 := Later.cell (w := wq) (box_cells Gq.out 3)
              have f4 := Later.cell (w := wq) (box_cells Gq.out 4)
              have f5 := Later.cell (w := wq) (box_cells Gq.out 5)
              have f6 := Later.cell (w := wq) (box_cells Gq.out 6)
              have f7 := Later.cell (w := wq) (box_cells Gq.out 7)
              have f8 := Later.cell (w := wq) (box_cells Gq.out 8)
              have f9 := Later.cell (w := wq) (box_cells Gq.out 9)
              have x0 : wq.cell? ⟨g, k * 4, none⟩ = (prC x)[0]? := Hcx.out 0 (by omega)
              have y0 : wq.cell? ⟨g, j * 4, none⟩ = (prC y)[0]? := Hcy.out 0 (by omega)
              have x1 : wq.cell? ⟨g, k * 4 + 1, none⟩ = (prC x)[1]? := Hcx.out 1 (by omega)
              have y1 : wq.cell? ⟨g, j * 4 + 1, none⟩ = (prC y)[1]? := Hcy.out 1 (by omega)
              have x2 : wq.cell? ⟨g, k * 4 + 2, none⟩ = (prC x)[2]? := Hcx.out 2 (by omega)
              have y2 : wq.cell? ⟨g, j * 4 + 2, none⟩ = (prC y)[2]? := Hcy.out 2 (by omega)
              have x3 : wq.cell? ⟨g, k * 4 + 3, none⟩ = (prC x)[3]? := Hcx.out 3 (by omega)
              have y3 : wq.cell? ⟨g, j * 4 + 3, none⟩ = (prC y)[3]? := Hcy.out 3 (by omega)
              have lx0 := Later.cell x0
              have ly0 := Later.cell y0
              have lx1 := Later.cell x1
              have ly1 := Later.cell y1
              have lx2 := Later.cell x2
              have ly2 := Later.cell y2
              have lx3 := Later.cell x3
              have ly3 := Later.cell y3
              have hdq := Hda.out.below hbk
              cases hbef : bef d.blocks x y with
              | false =>
                have hfin := Hdone.out k (by omega) Hup.out (fun z h hz => by
                  have e : k - 1 = j := by have := Hkj.out; omega
                  rw [e, HyS.out] at hz
                  cases hz
                  exact hbef)
                have Hfin := Lib.hid hfin
                have Hbef := Lib.hid hbef
                clear hfin hbef
                go_wp2_with fail
                refine wp_region_later (by kernel_rfl) (by kernel_rfl) ?_
                repeat (go_big_quiet_step ((go_at_call 76; exact Later.call (Gives.to Hbef.out (Before_any d _ _ x y _ (hdq.below (Subtype.property _)) hxd hyd)))))
                refine wpQuiet_nil ?_
                intro w9 hx9
                have hb9 := Later.out hx9
                clear hx9 f0 f1 f2 f3 f4 f5 f6 f7 f8 f9 lx0 ly0 lx1 ly1 lx2 ly2 lx3 ly3
                go_wp2
                go_roundw
                case rel => exact ⟨i + 1, by omega, by go_num, hbk.trans (hb9.mono hqs), rd_box_step hb9 Gq.out, by have h := own_below Hq.out hb9; rw [Hfin.out] at h; rw [HT.out]; exact h⟩
                case measure => simp [intOf]; omega
              | true =>
                have Hbef := Lib.hid hbef
                clear hbef
                go_wp2_with fail
                refine wp_region_later (by kernel_rfl) (by kernel_rfl) ?_
                repeat (go_big_quiet_step ((go_at_call 76; exact Later.call (Gives.to Hbef.out (Before_any d _ _ x y _ (hdq.below (Subtype.property _)) hxd hyd)))))
                refine wpQuiet_nil ?_
                intro w9 hx9
                have hb9 := Later.out hx9
                clear hx9 f0 f1 f2 f3 f4 f5 f6 f7 f8 f9 lx0 ly0 lx1 ly1 lx2 ly2 lx3 ly3
                replace x0 := cell_below hb9 x0
                replace y0 := cell_below hb9 y0
                replace x1 := cell_below hb9 x1
                replace y1 := cell_below hb9 y1
                replace x2 := cell_below hb9 x2
                replace y2 := cell_below hb9 y2
                replace x3 := cell_below hb9 x3
                replace y3 := cell_below hb9 y3
                have Ho9 := Lib.hid (own_below Hq.out hb9)
                have G9 := Lib.hid (rd_box_step hb9 Gq.out)
                have hw9 := hbk.trans (hb9.mono hqs)
                go_wp2_with fail
                refine wp_region_noPanic ?_
                refine wp_region_pickA [0, 1, 2, 3, 4, 5, 6, 7, 8, 10, 11, 12] 6 (fun _ => true) (fun _ => True) (by kernel_rfl) (by kernel_rfl) (fun _ _ _ _ _ h => h) trivial (fun hne => ?_)
                simp only [pick, pickN, List.filterMap_cons, List.filterMap_nil, List.getElem?_cons_zero, List.getElem?_cons_succ, Option.map_some]
                repeat (change wpQuiet _ _ _ _ (_ :: _) _; go_big_quiet_step (fail))
                refine wpQuiet_nil ?_
                clear hne
                refine wpAnyF_weak (S := fun w' => Below w9.heap.size w9 w') (kp := fun i => !(i == 15 || i == 16 || i == 17)) _ _ _ _ ?_
                refine wpAnyF_pick (by kernel_rfl) (fun _ _ _ _ _ h => h) 4 [9, 13] _ _ _ (by kernel_rfl) (Below.refl _ _).drew ?_
                have hne2 : Nonempty (Meets (fun w' => Below w9.heap.size w9 w')) := ⟨⟨w9, Below.refl _ _⟩⟩
                have nx0 := fun X : Meets (fun w' => Below w9.heap.size w9 w') => cell_below X.property x0
                have ny0 := fun X : Meets (fun w' => Below w9.heap.size w9 w') => cell_below X.property y0
                have nx1 := fun X : Meets (fun w' => Below w9.heap.size w9 w') => cell_below X.property x1
                have ny1 := fun X : Meets (fun w' => Below w9.heap.size w9 w') => cell_below X.property y1
                have nx2 := fun X : Meets (fun w' => Below w9.heap.size w9 w') => cell_below X.property x2
                have ny2 := fun X : Meets (fun w' => Below w9.heap.size w9 w') => cell_below X.property y2
                have nx3 := fun X : Meets (fun w' => Below w9.heap.size w9 w') => cell_below X.property x3
                have ny3 := fun X : Meets (fun w' => Below w9.heap.size w9 w') => cell_below X.property y3
                simp only [pick, pickN, List.filterMap_cons, List.filterMap_nil, List.getElem?_cons_zero, List.getElem?_cons_succ, Option.map_some]
                repeat (change wpQuiet _ _ _ _ (_ :: _) _; go_big_quiet_step (fail))
                refine wpQuiet_nil ?_
                clear hne2 nx0 nx1 nx2 nx3 ny0 ny1 ny2 ny3 x0 x1 x2 x3 y0 y1 y2 y3
                refine wpAnyF_name (fun W => W.ownsRow w.heap.size 125 4 (.slice (some ⟨g, 0, none⟩) R.length c) R.length (prCells (midP S x k ++ T)) ∧ Below w.heap.size w W ∧ W.heap[w.heap.size]? = some (.cells #[.int .i64 d.law.piece, .int .i64 d.law.drive, .int .i64 d.law.spread, .int .i64 d.law.brk, .int .i64 d.law.on, .int .i64 d.law.off, .int .i64 d.law.least, .int .i64 d.law.pieces, .slice A1 d.blocks.length c1, .slice A2 d.walk.length c2] 27 (0, 0)) ∧ Below w9.heap.size w9 W) ⟨own_below Ho9.out (Below.refl _ _).drew, hw9.drew, G9.out, (Below.refl _ _).drew⟩ (fun W hW => ?_)
                obtain ⟨W1, W2, W3, W4⟩ := hW
                have HB9 := Lib.hid W4
                clear W4
                have Hq3 := Lib.hid q3
                have HW1 := Lib.hid W1
                have c0 := W1.cellAt (k * 4) (by omega)
                have c1 := W1.cellAt (k * 4 + 1) (by omega)
                have c2 := W1.cellAt (k * 4 + 2) (by omega)
                have c3 := W1.cellAt (k * 4 + 3) (by omega)
                have hcs : ∀ o, o < (prCells (midP S x k ++ T)).length → ∃ u, (prCells (midP S x k ++ T))[o]? = some u := fun o ho => ⟨_, List.getElem?_eq_getElem ho⟩
                obtain ⟨u0, e0⟩ := hcs (k * 4) (by omega)
                obtain ⟨u1, e1⟩ := hcs (k * 4 + 1) (by omega)
                obtain ⟨u2, e2⟩ := hcs (k * 4 + 2) (by omega)
                obtain ⟨u3, e3⟩ := hcs (k * 4 + 3) (by omega)
                rw [e0] at c0
                rw [e1] at c1
                rw [e2] at c2
                rw [e3] at c3
                have fz := fun o => HW1.out.frozenAt o
                have HW2 := Lib.hid W2
                have HW3 := Lib.hid W3
                clear W1 W2 W3 e0 e1 e2 e3 hcs
                refine wpAnyF_one (i := 14) (by kernel_rfl) rfl (fun K hK => ?_)
                go_simp
                refine hK.out _ _ (fun _ => HB9.out) ?_
                clear hK K
                refine wpAnyF_one (i := 15) (by kernel_rfl) rfl (fun K hK => ?_)
                go_simp
                refine hK.out _ _ (fun h => by cases h) ?_
                clear hK K c0 c1 c2 c3 fz
                have hO1 := ((((HW1.out.stored (k * 4) (.int .i64 (y.b : Int))).1.stored (k * 4 + 1) (.int .i64 (y.fr : Int))).1.stored (k * 4 + 2) (.int .i64 (y.to : Int))).1.stored (k * 4 + 3) (.int .i64 (y.first : Int))).1
                rw [prCells_set y hkl] at hO1
                refine wpAnyF_name (fun V => V.ownsRow w.heap.size 125 4 (.slice (some ⟨g, 0, none⟩) R.length c) R.length (prCells ((midP S x k ++ T).set k y)) ∧ Below w.heap.size w V ∧ V.heap[w.heap.size]? = some (.cells #[.int .i64 d.law.piece, .int .i64 d.law.drive, .int .i64 d.law.spread, .int .i64 d.law.brk, .int .i64 d.law.on, .int .i64 d.law.off, .int .i64 d.law.least, .int .i64 d.law.pieces, .slice A1 d.blocks.length c1, .slice A2 d.walk.length c2] 27 (0, 0))) ⟨hO1, ((((((((HW2.out).setCell (p := ⟨g, k * 4, none⟩) hgb (.int .i64 (y.b : Int)))).setCell (p := ⟨g, k * 4 + 1, none⟩) hgb (.int .i64 (y.fr : Int)))).setCell (p := ⟨g, k * 4 + 2, none⟩) hgb (.int .i64 (y.to : Int)))).setCell (p := ⟨g, k * 4 + 3, none⟩) hgb (.int .i64 (y.first : Int))), (blk_other (blk_other (blk_other (blk_other HW3.out Hgw.out (.int .i64 (y.b : Int)) (o := k * 4)) Hgw.out (.int .i64 (y.fr : Int)) (o := k * 4 + 1)) Hgw.out (.int .i64 (y.to : Int)) (o := k * 4 + 2)) Hgw.out (.int .i64 (y.first : Int)) (o := k * 4 + 3))⟩ (fun V hV => ?_)
                obtain ⟨V1, V2, V3⟩ := hV
                clear hO1
                have HV1 := Lib.hid V1
                have HV2 := Lib.hid V2
                have HV3 := Lib.hid V3
                have hls : (prCells ((midP S x k ++ T).set k y)).length = (prCells (midP S x k ++ T)).length := by rw [prCells_len, prCells_len, List.length_set]
                have c0 := V1.cellAt (j * 4) (by omega)
                have c1 := V1.cellAt (j * 4 + 1) (by omega)
                have c2 := V1.cellAt (j * 4 + 2) (by omega)
                have c3 := V1.cellAt (j * 4 + 3) (by omega)
                have hcs : ∀ o, o < (prCells ((midP S x k ++ T).set k y)).length → ∃ u, (prCells ((midP S x k ++ T).set k y))[o]? = some u := fun o ho => ⟨_, List.getElem?_eq_getElem ho⟩
                obtain ⟨u0, e0⟩ := hcs (j * 4) (by omega)
                obtain ⟨u1, e1⟩ := hcs (j * 4 + 1) (by omega)
                obtain ⟨u2, e2⟩ := hcs (j * 4 + 2) (by omega)
                obtain ⟨u3, e3⟩ := hcs (j * 4 + 3) (by omega)
                rw [e0] at c0
                rw [e1] at c1
                rw [e2] at c2
                rw [e3] at c3
                have fz := fun o => HV1.out.frozenAt o
                clear V1 V2 V3 e0 e1 e2 e3 hcs hls
                refine wpAnyF_one (i := 16) (by kernel_rfl) rfl (fun K hK => ?_)
                go_simp
                refine hK.out _ _ (fun h => by cases h) ?_
                clear hK K
                refine wpAnyF_one (i := 17) (by kernel_rfl) rfl (fun K hK => ?_)
                go_simp
                refine hK.out _ _ (fun h => by cases h) ?_
                clear hK K c0 c1 c2 c3 fz
                refine wpAnyF_done (by kernel_rfl) ?_ _
                refine NoPanic.normal ?_
                have hO2 := ((((HV1.out.stored (j * 4) (.int .i64 (x.b : Int))).1.stored (j * 4 + 1) (.int .i64 (x.fr : Int))).1.stored (j * 4 + 2) (.int .i64 (x.to : Int))).1.stored (j * 4 + 3) (.int .i64 (x.first : Int))).1
                rw [prCells_set x (by rw [List.length_set]; exact hjl), ← Hswap.out] at hO2
                have HO2 := Lib.hid hO2
                clear hO2
                go_wp2
                go_roundw
                case rel =>
                  refine ⟨j, by omega, rfl, ((((((((HV2.out).setCell (p := ⟨g, j * 4, none⟩) hgb (.int .i64 (x.b : Int)))).setCell (p := ⟨g, j * 4 + 1, none⟩) hgb (.int .i64 (x.fr : Int)))).setCell (p := ⟨g, j * 4 + 2, none⟩) hgb (.int .i64 (x.to : Int)))).setCell (p := ⟨g, j * 4 + 3, none⟩) hgb (.int .i64 (x.first : Int))), (blk_other (blk_other (blk_other (blk_other HV3.out Hgw.out (.int .i64 (x.b : Int)) (o := j * 4)) Hgw.out (.int .i64 (x.fr : Int)) (o := j * 4 + 1)) Hgw.out (.int .i64 (x.to : Int)) (o := j * 4 + 2)) Hgw.out (.int .i64 (x.first : Int)) (o := j * 4 + 3)), HO2.out, fun q hq => ?_⟩
                  have hd2 : S.drop j = y :: S.drop k := by
                    have h := List.drop_eq_getElem_cons (l := S) (i := j) (by omega)
                    rw [h]
                    have e1 := HyS.out
                    rw [List.getElem?_eq_getElem (by omega)] at e1
                    rw [Option.some.inj e1, Hkj.out]
                  rw [hd2] at hq
                  rcases List.mem_cons.1 hq with rfl | hq
                  · exact Hbef.out
                  · exact Hup.out q hq
                case measure => simp [intOf]; omega
        · obtain rfl : i = R.length := by omega
          have hiI : ¬ (R.length : Int) < (R.length : Int) := by omega
          have hfin := Hi.out
          rw [List.take_length, List.drop_length, List.append_nil] at hfin
          have Hfin := Lib.hid hfin
          have hpl2 : (piecesL d l).length = R.length := by rw [Hpl.out, (srtP_perm d.blocks R).length_eq]
          have Hpl2 := Lib.hid hpl2
          clear hfin hpl2
          go_wp2
          go_ret
          exact ⟨A, c, (by rw [Hpl2.out] : Ending.returned (.slice A R.length c) = Ending.returned (.slice A (piecesL d l).length c)), by rw [Hpl2.out, Hpl.out]; exact Hfin.out, hbi⟩
end Go.Proofs.YtllobkhdeahgpaaGreat
