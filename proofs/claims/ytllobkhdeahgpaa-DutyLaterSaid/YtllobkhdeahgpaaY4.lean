import Derived.Test.YtllobkhdeahgpaaY3
set_option linter.unusedVariables false
set_option linter.unusedSimpArgs false
namespace Go.Proofs.Ytllobkhdeahgpaa
open Go Go.Proofs Go.RowKit

/-! ### DutyLater -/
def latK (c : Int) (l : List Rel) (m : Nat) : List Rel := (l.take m).map (laterR c) ++ l.drop m
theorem latK_zero (c : Int) (l : List Rel) : latK c l 0 = l := by simp [latK]
theorem latK_all (c : Int) (l : List Rel) : latK c l l.length = l.map (laterR c) := by simp [latK]
theorem latK_get (c : Int) {l : List Rel} {m : Nat} (h : m < l.length) : (latK c l m)[m]? = l[m]? := by
  unfold latK
  have e : ((l.take m).map (laterR c)).length = m := by simp; omega
  rw [List.getElem?_append_right (by omega), e, Nat.sub_self, List.getElem?_drop, Nat.add_zero]
theorem latK_step (c : Int) {l : List Rel} {m : Nat} {r : Rel} (h : l[m]? = some r) : (latK c l m).set m (laterR c r) = latK c l (m + 1) := by
  have hm := (List.getElem?_eq_some_iff.1 h).1
  have e : ((l.take m).map (laterR c)).length = m := by simp; omega
  unfold latK
  rw [List.set_append_right _ _ (by omega), e, Nat.sub_self, List.take_add_one, h]
  have e2 : l.drop m = r :: l.drop (m + 1) := by
    rw [List.drop_eq_getElem_cons hm]
    congr 1
    rw [List.getElem?_eq_getElem hm] at h
    exact Option.some.inj h
  rw [e2]
  simp
set_option maxRecDepth 100000 in
set_option maxHeartbeats 800000 in
theorem Later_dark (d : DDay) (u z : Value) (x y : Nat) (w : World) (hda : DayAt w u z d) (hx : x < 65536) (hy : y < 65536) (hl : lightB d = false) :
    Calls Try.prog 5 #[.agg #[.int .i64 d.law.piece, .int .i64 d.law.drive, .int .i64 d.law.spread, .int .i64 d.law.brk, .int .i64 d.law.on, .int .i64 d.law.off, .int .i64 d.law.least, .int .i64 d.law.pieces, u, z], .int .u16 (x : Int), .int .u16 (y : Int)] w (Gives w (.bool true)) := by
  obtain ⟨A1, c1, rfl, _, _⟩ := hda.blocks.form
  obtain ⟨A2, c2, rfl, _, _⟩ := hda.walk.form
  have hw0 : Below w.heap.size w (w.alloc (.cells #[.int .i64 d.law.piece, .int .i64 d.law.drive, .int .i64 d.law.spread, .int .i64 d.law.brk, .int .i64 d.law.on, .int .i64 d.law.off, .int .i64 d.law.least, .int .i64 d.law.pieces, .slice A1 d.blocks.length c1, .slice A2 d.walk.length c2] 27)) := (Below.refl _ _).alloc (Nat.le_refl _) _
  have G0 := Lib.hid (heap_alloc_new w (.cells #[.int .i64 d.law.piece, .int .i64 d.law.drive, .int .i64 d.law.spread, .int .i64 d.law.brk, .int .i64 d.law.on, .int .i64 d.law.off, .int .i64 d.law.least, .int .i64 d.law.pieces, .slice A1 d.blocks.length c1, .slice A2 d.walk.length c2] 27 (0, 0)))
  have Hda := Lib.hid hda
  have Hl := Lib.hid hl
  clear hl
  clear hda
  go_enter Try.func5, Try.ntmps5
  have gc := box_cells G0.out
  have gf := box_frozen G0.out
  go_wp2_with fail
  refine (Gives.to Hl.out (light_any d _ _ _ (Hda.out.below hw0))).mono ?_
  rintro e w1 ⟨rfl, hb1⟩
  have hw1 := hw0.trans (hb1.mono hw0.size)
  have G1 := Lib.hid (box_step hb1 G0.out)
  replace gc := box_cells G1.out
  replace gf := box_frozen G1.out
  go_wp2_with fail
  refine (wakes_any _).mono ?_
  rintro e w2 ⟨rfl, hb2⟩
  have hw2 := hw1.trans (hb2.mono hw1.size)
  have G2 := Lib.hid (box_step hb2 G1.out)
  replace gc := box_cells G2.out
  replace gf := box_frozen G2.out
  go_wp2
  go_ret
  exact ⟨rfl, hw2⟩
set_option maxRecDepth 100000 in
set_option maxHeartbeats 1600000 in
theorem Later_none (d : DDay) (u z : Value) (x y : Nat) (w : World) (hda : DayAt w u z d) (hx : x < 65536) (hy : y < 65536) (hl : lightB d = true) (hs : segN d.blocks = 0) :
    Calls Try.prog 5 #[.agg #[.int .i64 d.law.piece, .int .i64 d.law.drive, .int .i64 d.law.spread, .int .i64 d.law.brk, .int .i64 d.law.on, .int .i64 d.law.off, .int .i64 d.law.least, .int .i64 d.law.pieces, u, z], .int .u16 (x : Int), .int .u16 (y : Int)] w (Gives w (.bool true)) := by
  have hlt := hl
  unfold lightB at hlt
  rw [Bool.and_eq_true, decide_eq_true_eq] at hlt
  obtain ⟨_, hm, hf, hf0⟩ := ready_ok hlt.1
  have h8 := hlt.2
  have hd := fault_ok hf
  have Hd := Lib.hid hd
  have Hf := Lib.hid hf
  clear hlt hd hf hf0
  have hsI : (((segN d.blocks : Nat) : Int) == 0) = true := by rw [hs]; rfl
  clear hs
  obtain ⟨A1, c1, rfl, _, _⟩ := hda.blocks.form
  obtain ⟨A2, c2, rfl, _, _⟩ := hda.walk.form
  have hw0 : Below w.heap.size w (w.alloc (.cells #[.int .i64 d.law.piece, .int .i64 d.law.drive, .int .i64 d.law.spread, .int .i64 d.law.brk, .int .i64 d.law.on, .int .i64 d.law.off, .int .i64 d.law.least, .int .i64 d.law.pieces, .slice A1 d.blocks.length c1, .slice A2 d.walk.length c2] 27)) := (Below.refl _ _).alloc (Nat.le_refl _) _
  have G0 := Lib.hid (heap_alloc_new w (.cells #[.int .i64 d.law.piece, .int .i64 d.law.drive, .int .i64 d.law.spread, .int .i64 d.law.brk, .int .i64 d.law.on, .int .i64 d.law.off, .int .i64 d.law.least, .int .i64 d.law.pieces, .slice A1 d.blocks.length c1, .slice A2 d.walk.length c2] 27 (0, 0)))
  have Hda := Lib.hid hda
  have Hl := Lib.hid hl
  clear hl
  clear hda
  go_enter Try.func5, Try.ntmps5
  have gc := box_cells G0.out
  have gf := box_frozen G0.out
  go_wp2_with fail
  refine (Gives.to Hl.out (light_any d _ _ _ (Hda.out.below hw0))).mono ?_
  rintro e w1 ⟨rfl, hb1⟩
  have hw1 := hw0.trans (hb1.mono hw0.size)
  have G1 := Lib.hid (box_step hb1 G0.out)
  replace gc := box_cells G1.out
  replace gf := box_frozen G1.out
  go_wp2_with fail
  refine (Segments_any d _ _ _ (Hda.out.below hw1) hm).mono ?_
  rintro e w2 ⟨rfl, hb2⟩
  have hw2 := hw1.trans (hb2.mono hw1.size)
  have G2 := Lib.hid (box_step hb2 G1.out)
  replace gc := box_cells G2.out
  replace gf := box_frozen G2.out
  go_wp2_with fail
  refine (wakes_any _).mono ?_
  rintro e w3 ⟨rfl, hb3⟩
  have hw3 := hw2.trans (hb3.mono hw2.size)
  have G3 := Lib.hid (box_step hb3 G2.out)
  replace gc := box_cells G3.out
  replace gf := box_frozen G3.out
  go_wp2
  go_ret
  exact ⟨rfl, hw3⟩
set_option maxRecDepth 100000 in
set_option maxHeartbeats 6400000 in
theorem Later_main (d : DDay) (u z : Value) (x y : Nat) (w : World) (hda : DayAt w u z d) (hx : x < 65536) (hy : y < 65536) (hl : lightB d = true) (hs : 0 < segN d.blocks) :
    Calls Try.prog 5 #[.agg #[.int .i64 d.law.piece, .int .i64 d.law.drive, .int .i64 d.law.spread, .int .i64 d.law.brk, .int .i64 d.law.on, .int .i64 d.law.off, .int .i64 d.law.least, .int .i64 d.law.pieces, u, z], .int .u16 (x : Int), .int .u16 (y : Int)] w (Gives w (.bool true)) := by
  have hlt := hl
  unfold lightB at hlt
  rw [Bool.and_eq_true, decide_eq_true_eq] at hlt
  obtain ⟨_, hm, hf, hf0⟩ := ready_ok hlt.1
  have h8 := hlt.2
  have hd := fault_ok hf
  have Hd := Lib.hid hd
  have Hf := Lib.hid hf
  clear hlt hd hf hf0
  have hsI : (((segN d.blocks : Nat) : Int) == 0) = false := by rw [Bool.eq_false_iff]; simp only [ne_eq, beq_iff_eq]; omega
  obtain ⟨i1, hi1, hy0, hy1, hy2⟩ := info_parts infoBlR
  obtain ⟨i2, hi2, hr0, hr1, hr2⟩ := info_parts infoRelR
  obtain ⟨t, ht⟩ : ∃ t : Nat, x % 1000 = t := ⟨_, rfl⟩
  have htl : t < 1000 := by omega
  have htI : (x : Int) % 1000 = (t : Int) := by omega
  have htT : (x : Int).tmod 1000 = (t : Int) := by rw [Int.tmod_eq_emod_of_nonneg (by omega)]; exact htI
  have Hs := Lib.hid hs
  clear ht
  obtain ⟨A1, c1, rfl, _, _⟩ := hda.blocks.form
  obtain ⟨A2, c2, rfl, _, _⟩ := hda.walk.form
  have hw0 : Below w.heap.size w (w.alloc (.cells #[.int .i64 d.law.piece, .int .i64 d.law.drive, .int .i64 d.law.spread, .int .i64 d.law.brk, .int .i64 d.law.on, .int .i64 d.law.off, .int .i64 d.law.least, .int .i64 d.law.pieces, .slice A1 d.blocks.length c1, .slice A2 d.walk.length c2] 27)) := (Below.refl _ _).alloc (Nat.le_refl _) _
  have G0 := Lib.hid (heap_alloc_new w (.cells #[.int .i64 d.law.piece, .int .i64 d.law.drive, .int .i64 d.law.spread, .int .i64 d.law.brk, .int .i64 d.law.on, .int .i64 d.law.off, .int .i64 d.law.least, .int .i64 d.law.pieces, .slice A1 d.blocks.length c1, .slice A2 d.walk.length c2] 27 (0, 0)))
  have Hda := Lib.hid hda
  have Hl := Lib.hid hl
  clear hl
  clear hda
  go_enter Try.func5, Try.ntmps5
  have gc := box_cells G0.out
  have gf := box_frozen G0.out
  go_wp2_with fail
  refine (Gives.to Hl.out (light_any d _ _ _ (Hda.out.below hw0))).mono ?_
  rintro e w1 ⟨rfl, hb1⟩
  have hw1 := hw0.trans (hb1.mono hw0.size)
  have G1 := Lib.hid (box_step hb1 G0.out)
  replace gc := box_cells G1.out
  replace gf := box_frozen G1.out
  go_wp2_with fail
  refine (Segments_any d _ _ _ (Hda.out.below hw1) hm).mono ?_
  rintro e w2 ⟨rfl, hb2⟩
  have hw2 := hw1.trans (hb2.mono hw1.size)
  have G2 := Lib.hid (box_step hb2 G1.out)
  replace gc := box_cells G2.out
  replace gf := box_frozen G2.out
  go_wp2_with fail
  obtain ⟨X, hX⟩ : ∃ X, X = laterD (t : Int) d := ⟨_, rfl⟩
  have HX := Lib.hid hX
  have HXl := Lib.hid (show X.law = d.law by rw [hX]; rfl)
  have HXb := Lib.hid (show X.blocks = d.blocks.map (fun l => l.map (laterR (t : Int))) by rw [hX]; rfl)
  have HXw := Lib.hid (show X.walk = d.walk by rw [hX]; rfl)
  have hXm : Mild X := by
    refine ⟨by rw [HXb.out, List.length_map]; exact hm.blocks, fun b x hx => ?_, by rw [HXw.out]; exact hm.walk, by rw [HXw.out]; exact hm.row⟩
    rw [HXb.out, List.getElem?_map] at hx
    obtain ⟨l, hl, rfl⟩ := Option.map_eq_some_iff.1 hx
    rw [List.length_map]
    exact hm.block b l hl
  have HXm := Lib.hid hXm
  clear hX hXm
  have hNw : w.heap.size < w2.heap.size := (Array.getElem?_eq_some_iff.1 G2.out).1
  refine wp_name (fun W => ChMid w W d w2.heap.size (.slice A1 d.blocks.length c1) (.slice A2 d.walk.length c2) (.slice A2 d.walk.length c2) [] 0 none 0 []) ⟨hw2.alloc hw2.size _, (Below.heap_alloc w2 _ _ hNw).trans G2.out, heap_alloc_new w2 _, World.ownsRow_nil _ _ _ _, ⟨rfl, by intro j l h; simp at h⟩⟩ (fun W hW => ?_)
  have HW := Lib.hid hW
  clear hW G0 G1 G2 hb1 hb2 gc gf
  have hn6 := Hd.out.blocks
  generalize w2.heap.size = N at *
  go_loopw [8] (fun i wr => ∃ (k : Nat) (A : Option Addr) (c : Nat) (us : List Value), k ≤ d.blocks.length ∧ i = .int .i64 k ∧ ChMid w wr d N (.slice A1 d.blocks.length c1) (.slice A2 d.walk.length c2) (.slice A2 d.walk.length c2) (X.blocks.take k) k A c us) (fun i wr => d.blocks.length - (intOf i).toNat)
  case atStart => exact ⟨0, none, 0, [], by omega, rfl, HW.out⟩
  case round =>
    obtain ⟨k, A, c, us, hk, rfl, hM⟩ := hrel
    obtain ⟨wo, rfl⟩ : ∃ wo : World, wo = wr := ⟨_, rfl⟩
    have HM := Lib.hid hM
    have hwo := hM.bel
    have gc := box_cells HM.out.box
    have gf := box_frozen HM.out.box
    have hsz := hM.bel.size
    have hlt0 := (Array.getElem?_eq_some_iff.1 HM.out.box).1
    clear hM
    by_cases hlt : k < d.blocks.length
    · have hkI : (k : Int) < (d.blocks.length : Int) := by omega
      obtain ⟨b, o, l, yv, rfl, hl, cl, hrl, hbl⟩ := (Hda.out.blocks.below hwo).at_ hlt
      obtain ⟨A5, c5, rfl, _, _⟩ := hrl.form
      have h2 := Hd.out.two k l hl
      have hl14 := hm.block k l hl
      have Hl := Lib.hid hl
      have ho : (wo.alloc (.cells #[] 55)).ownsRow wo.heap.size 55 3 (.slice (some ⟨wo.heap.size, 0, none⟩) 0 0) 0 [] := World.ownsRow_lit wo #[] 0 (Nat.le_refl _) (by simp [maxLen]) (by simp)
      have hsrc : Src (wo.alloc (.cells #[] 55)) A5 l.length 3 (relCells l) := (rels_src hrl).below ((Below.refl _ _).alloc (Nat.le_refl _) _)
      have Ho := Lib.hid ho
      have Hsrc := Lib.hid hsrc
      have Hone := Lib.hid (relCells_one l)
      have hb0 : Below wo.heap.size wo (wo.alloc (.cells #[] 55)) := (Below.refl _ _).alloc (Nat.le_refl _) _
      clear hl hrl ho hsrc
      go_wp2_with (at_builtin; go_loud (refine wpList_append_src _ rfl (.tmp 40) (.tmp 45) 56 rfl wo.heap.size 55 i2 _ 3 24 Try.underlying56 hi2 hr0 hr1 hr2 rfl (by omega) _ 0 [] rfl Ho.out A5 l.length c5 (relCells l) rfl Hsrc.out Hone.out (by simp [maxLen]; omega) (by omega) (by simp) ?_; intro v1 w1 hown1 hg1 hat1; rw [Nat.zero_add, List.nil_append] at hown1; have Hb1 := Lib.hid (below_grown hb0 hg1 (by simp) Ho.out (Nat.le_refl _)); obtain ⟨A7, c7, rfl⟩ := own_form hown1; have Hown1 := Lib.hid hown1; clear hown1 hg1 hat1))
      obtain ⟨g, rfl, hgb, _⟩ := own_some Hown1.out (by omega)
      have HlA := Lib.hid (latK_all (t : Int) l)
      go_loopw [10] (fun i wr => ∃ m : Nat, m ≤ l.length ∧ i = .int .i64 m ∧ Below wo.heap.size wo wr ∧ wr.ownsRow wo.heap.size 55 3 (.slice (some ⟨g, 0, none⟩) l.length c7) l.length (relCells (latK (t : Int) l m))) (fun i wr => l.length - (intOf i).toNat)
      case atStart => exact ⟨0, by omega, rfl, Hb1.out, by rw [latK_zero]; exact Hown1.out⟩
      case round =>
        obtain ⟨m, hmk, rfl, hb2, hown⟩ := hrel
        obtain ⟨wq, rfl⟩ : ∃ wq : World, wq = wr := ⟨_, rfl⟩
        have Hown := Lib.hid hown
        have hs2 := hb2.size
        clear hown
        by_cases hlm : m < l.length
        · have hmI : (m : Int) < (l.length : Int) := by omega
          have hr := List.getElem?_eq_getElem hlm
          obtain ⟨r, hrr⟩ : ∃ r, l[m] = r := ⟨_, rfl⟩
          rw [hrr] at hr
          have hok := Hd.out.rel k l m r Hl.out hr
          have hlo := hok.lo
          have hhi := hok.hi
          have hlat : (latK (t : Int) l m)[m]? = some r := (latK_get (t : Int) hlm).trans hr
          have e1 := relCells_get hlat (j := 1) (by omega)
          have e2 := relCells_get hlat (j := 2) (by omega)
          have hset := relCells_set (r.lo + t) (r.hi + t) hlat
          rw [show (⟨r.place, r.lo + t, r.hi + t⟩ : Rel) = laterR (t : Int) r from rfl, latK_step (t : Int) hr] at hset
          have Hset := Lib.hid hset
          have hown0 := own_below Hown.out (Below.refl wq.heap.size wq).drew
          have x1 : wq.drew.cell? ⟨g, m * 3 + 1, none⟩ = some (.int .i64 r.lo) := (hown0.cellAt (m * 3 + 1) (by omega)).trans e1
          have x2 : wq.drew.cell? ⟨g, m * 3 + 2, none⟩ = some (.int .i64 r.hi) := (hown0.cellAt (m * 3 + 2) (by omega)).trans e2
          have Hown0 := Lib.hid hown0
          have hw1 : IntKind.i64.wrap (r.lo + (t : Int)) = r.lo + t := IntWalk.i64_in _ (by omega)
          have hw2' : IntKind.i64.wrap (r.hi + (t : Int)) = r.hi + t := IntWalk.i64_in _ (by omega)
          clear hrr hr hok hlat e1 e2 hset hown0
          go_wp2_with fail
          refine wp_region_noPanic ?_
          refine wp_region_pick [0, 1, 2, 3, 4, 5, 6, 7, 8, 9, 10, 11, 12, 13, 14, 15, 16, 17, 18, 19, 20, 21, 22] [23, 24, 25] (fun i => !(i == 25)) (fun w' => w'.cell? ⟨g, m * 3 + 1, none⟩ = some (.int .i64 r.lo) ∧ w'.cell? ⟨g, m * 3 + 2, none⟩ = some (.int .i64 r.hi)) (by kernel_rfl) (by kernel_rfl) (fun _ _ _ _ _ h => h) ⟨x1, x2⟩ (fun hne => ?_)
          have m0 := fun q : Meets (fun w' => w'.cell? ⟨g, m * 3 + 1, none⟩ = some (.int .i64 r.lo) ∧ w'.cell? ⟨g, m * 3 + 2, none⟩ = some (.int .i64 r.hi)) => q.property
          have n1 := fun q => (m0 q).1
          have n2 := fun q => (m0 q).2
          clear m0
          simp only [pick, pickN, List.filterMap_cons, List.filterMap_nil, List.getElem?_cons_zero, List.getElem?_cons_succ, Option.map_some]
          repeat (change wpQuiet _ _ _ _ (_ :: _) _; go_big_quiet_step (fail))
          refine wpQuiet_nil ?_
          clear n1 n2 hne hw1 hw2'
          have hbd : Below wo.heap.size wo wq.drew := hb2.drew
          have fz := fun o => Hown0.out.frozenAt o
          generalize wq.drew = v0 at *
          refine wpSeqP_step (fun K hK => ?_)
          go_simp
          refine hK.out _ _ (fun _ => ⟨x1, x2⟩) ?_
          clear hK K
          refine wpSeqP_step (fun K hK => ?_)
          go_simp
          refine hK.out _ _ (fun _ => ⟨x1, x2⟩) ?_
          clear hK K
          refine wpSeqP_step (fun K hK => ?_)
          go_simp
          refine hK.out _ _ (fun h => by cases h) ?_
          clear hK K x1 x2 fz
          have hO := ((Hown0.out.stored (m * 3 + 1) (.int .i64 (r.lo + t))).1.stored (m * 3 + 2) (.int .i64 (r.hi + t))).1
          rw [Hset.out] at hO
          have HO := Lib.hid hO
          have HB := Lib.hid ((hbd.setCell (p := ⟨g, m * 3 + 1, none⟩) hgb (.int .i64 (r.lo + t))).setCell (p := ⟨g, m * 3 + 2, none⟩) hgb (.int .i64 (r.hi + t)))
          clear hO
          refine wpSeqP_nil ?_
          refine NoPanic.normal ?_
          go_wp2_with fail
          go_roundw
          case rel => exact ⟨m + 1, by omega, by go_num, HB.out, HO.out⟩
          case measure => simp [intOf]; omega
        · obtain rfl : m = l.length := by omega
          have hmI : ¬ (l.length : Int) < (l.length : Int) := by omega
          have hw2 := Hown.out
          rw [HlA.out] at hw2
          have Hw2 := Lib.hid (own_mono hw2 hsz)
          have HM2 := Lib.hid (HM.out.below hb2)
          have g8 := box_cells HM2.out.out 8
          have gf2 := box_frozen HM2.out.out 8
          have HXt := Lib.hid (show X.blocks.take (k + 1) = X.blocks.take k ++ [l.map (laterR (t : Int))] by
            rw [List.take_add_one, HXb.out, List.getElem?_map, Hl.out]; rfl)
          clear hw2
          go_wp2_with (at_builtin; go_loud (refine wpList_append_src _ rfl (.tmp 79) (.tmp 81) 24 rfl w.heap.size 56 i1 _ 1 24 Try.underlying24 hi1 hy0 hy1 hy2 rfl (by omega) _ k us rfl (HM2.out.rels.alloc _) (some ⟨wq.heap.size, 0, none⟩) 1 1 [.slice (some ⟨g, 0, none⟩) l.length c7] rfl (src_new wq [.slice (some ⟨g, 0, none⟩) l.length c7] 56 1 1 rfl) (by simp [Value.oneCell']) (by simp [maxLen]; omega) (by omega) (by simp; omega) ?_; intro v1 w1 hown1 hg1 hat1; have Hg1 := Lib.hid hg1; obtain ⟨AA1, cc1, rfl⟩ := own_form hown1; have Hown2 := Lib.hid hown1; clear hown1 hg1 hat1; have g81 := box_cells (own_grow HM2.out.rels HM2.out.out (by decide) Hg1.out) 8; have gf1 := box_frozen (own_grow HM2.out.rels HM2.out.out (by decide) Hg1.out) 8))
          go_roundw
          case rel =>
            refine ⟨k + 1, AA1, cc1, us ++ [.slice (some ⟨g, 0, none⟩) l.length c7], by omega, by go_num, ?_⟩
            rw [HXt.out]
            exact HM2.out.next hNw (by rw [List.length_map]; exact Hw2.out) Hown2.out Hg1.out
          case measure => simp [intOf]; omega
    · obtain rfl : k = d.blocks.length := by omega
      have hkI : ¬ (d.blocks.length : Int) < (d.blocks.length : Int) := by omega
      have hown' := HM.out.own
      rw [show X.blocks.take d.blocks.length = X.blocks from List.take_of_length_le (by rw [HXb.out, List.length_map]; exact Nat.le_refl _)] at hown'
      have hxd : DayAt wo (.slice A d.blocks.length c) (.slice A2 d.walk.length c2) X := ⟨blocks_of_ownR HM.out.rels hown', by rw [HXw.out]; exact Hda.out.walk.below hwo⟩
      have Gb := Lib.hid HM.out.box
      have Xb := Lib.hid HM.out.out
      have xc := box_cells Xb.out
      have xf := box_frozen Xb.out
      obtain ⟨wb, rfl⟩ : ∃ V : World, V = wo := ⟨_, rfl⟩
      have hwb := hwo
      have HFX := Lib.hid (show ∀ (u z : Value) (w' : World), DayAt w' u z X → Calls Try.prog 22 #[.agg #[.int .i64 d.law.piece, .int .i64 d.law.drive, .int .i64 d.law.spread, .int .i64 d.law.brk, .int .i64 d.law.on, .int .i64 d.law.off, .int .i64 d.law.least, .int .i64 d.law.pieces, u, z]] w' (Gives w' (.int .i64 (faultD X))) from fun u z w' h => HXl.out ▸ FaultR_any X u z w' h HXm.out)
      clear hown' HM
      by_cases hfx : faultD X = 0
      · have hXok : DayOk X := day_ok.1 hfx
        have HXf := Lib.hid (show (faultD X != 0) = false by rw [hfx]; rfl)
        rw [hfx] at HFX
        obtain ⟨LG, hLG⟩ : ∃ b : Bool, legalL d (setL (segN d.blocks) y) = b := ⟨_, rfl⟩
        have hod := set_duty (d := d) y Hs.out
        have hsg : segN X.blocks = segN d.blocks := by rw [HX.out]; exact later_segN _ _
        have hxd2 : IsDuty X (setL (segN d.blocks) y) := ⟨hod.rise, by rw [hsg]; exact hod.lt, hod.some⟩
        have hxl : legalL X (setL (segN d.blocks) y) = LG := by rw [HX.out, (later_legal (t : Int) hod.rise hod.lt).1, hLG]
        have hlo := setL_len (segN d.blocks) y
        obtain ⟨e1, e2, e3⟩ := best_eqs (d := d) (x := X) (by rw [HX.out, (later_best (t : Int) d).1, (later_best (t : Int) d).2]; exact ⟨rfl, fun _ => ⟨rfl, rfl⟩⟩)
        obtain ⟨BL, hBL⟩ : ∃ b, bestLen d = b := ⟨_, rfl⟩
        obtain ⟨BP, hBP⟩ : ∃ b, bestPay d = b := ⟨_, rfl⟩
        obtain ⟨BE, hBE⟩ : ∃ b, bestE d = b := ⟨_, rfl⟩
        have HBD := Lib.hid (show ∀ (u z : Value) (w' : World), DayAt w' u z d → Calls Try.prog 14 #[.agg #[.int .i64 d.law.piece, .int .i64 d.law.drive, .int .i64 d.law.spread, .int .i64 d.law.brk, .int .i64 d.law.on, .int .i64 d.law.off, .int .i64 d.law.least, .int .i64 d.law.pieces, u, z]] w' (GivesBest3 BL BP BE w') from fun u z w' h => Best3_any d u z w' h hm Hf.out hBL hBP hBE)
        have HBX := Lib.hid (show ∀ (u z : Value) (w' : World), DayAt w' u z X → Calls Try.prog 14 #[.agg #[.int .i64 d.law.piece, .int .i64 d.law.drive, .int .i64 d.law.spread, .int .i64 d.law.brk, .int .i64 d.law.on, .int .i64 d.law.off, .int .i64 d.law.least, .int .i64 d.law.pieces, u, z]] w' (GivesBest3 BL BP BE w') from fun u z w' h => HXl.out ▸ Best3_any X u z w' h HXm.out HXf.out (e1.trans hBL) (e2.trans hBP) (e3.trans hBE))
        have HDX := Lib.hid (show ∀ (u z : Value) (w' : World), DayAt w' u z X → Calls Try.prog 15 #[.agg #[.int .i64 d.law.piece, .int .i64 d.law.drive, .int .i64 d.law.spread, .int .i64 d.law.brk, .int .i64 d.law.on, .int .i64 d.law.off, .int .i64 d.law.least, .int .i64 d.law.pieces, u, z]] w' (GivesDay d.law X w') from fun u z w' h => HXl.out ▸ DayC_any X u z w' h HXm.out)
        obtain ⟨S, hS⟩ : ∃ S : List Nat, setL (segN d.blocks) y = S := ⟨_, rfl⟩
        rw [hS] at hLG hod hxd2 hxl hlo
        have HLD := Lib.hid (show ∀ (u z v : Value) (w' : World), DayAt w' u z d → NumsAt .i64 w' v (natsI S) → Calls Try.prog 20 #[.agg #[.int .i64 d.law.piece, .int .i64 d.law.drive, .int .i64 d.law.spread, .int .i64 d.law.brk, .int .i64 d.law.on, .int .i64 d.law.off, .int .i64 d.law.least, .int .i64 d.law.pieces, u, z], v] w' (Gives w' (.tuple #[.bool LG, .int .i64 0])) from fun u z v w' h k => by
          have := LegalS_any d u z v S w' h hm Hf.out k hod
          rwa [hLG] at this)
        have HLX := Lib.hid (show ∀ (u z v : Value) (w' : World), DayAt w' u z X → NumsAt .i64 w' v (natsI S) → Calls Try.prog 20 #[.agg #[.int .i64 d.law.piece, .int .i64 d.law.drive, .int .i64 d.law.spread, .int .i64 d.law.brk, .int .i64 d.law.on, .int .i64 d.law.off, .int .i64 d.law.least, .int .i64 d.law.pieces, u, z], v] w' (Gives w' (.tuple #[.bool LG, .int .i64 0])) from fun u z v w' h k => by
          have := LegalS_any X u z v S w' h HXm.out HXf.out k hxd2
          rwa [hxl, HXl.out] at this)
        have HSS := Lib.hid hS
        have HSl := Lib.hid (natsI_len S)
        clear e1 e2 e3 hBL hBP hBE hXok hLG hod hxd2 hxl hS hsg hfx
        go_wp2_with fail
        refine (HFX.out _ _ _ hxd).mono ?_
        rintro e w3 ⟨rfl, hb3⟩
        have hw3 := hwb.trans (hb3.mono hwb.size)
        have G3 := Lib.hid (box_step hb3 Gb.out)
        replace gc := box_cells G3.out
        replace gf := box_frozen G3.out
        have X3 := Lib.hid (box_step hb3 Xb.out)
        replace xc := box_cells X3.out
        replace xf := box_frozen X3.out
        replace hxd := hxd.below hb3
        go_wp2_with fail
        refine (Set_any d _ _ y _ (Hda.out.below hw3) hm (by omega) hy).mono ?_
        rintro e w4 ⟨A6, c6, rfl, ho6, hb4⟩
        have hw4 := hw3.trans (hb4.mono hw3.size)
        have G4 := Lib.hid (box_step hb4 G3.out)
        replace gc := box_cells G4.out
        replace gf := box_frozen G4.out
        have X4 := Lib.hid (box_step hb4 X3.out)
        replace xc := box_cells X4.out
        replace xf := box_frozen X4.out
        replace hxd := hxd.below hb4
        rw [HSS.out, HSl.out] at ho6 ⊢
        have hov := nums_of_own (K := .i64) ho6
        clear ho6
        go_wp2_with fail
        refine (DayC_any d _ _ _ (Hda.out.below hw4) hm).mono ?_
        rintro e w5 ⟨B15, B25, e15, e25, rfl, hd5, hb5⟩
        have hw5 := hw4.trans (hb5.mono hw4.size)
        have G5 := Lib.hid (box_step hb5 G4.out)
        replace gc := box_cells G5.out
        replace gf := box_frozen G5.out
        have X5 := Lib.hid (box_step hb5 X4.out)
        replace xc := box_cells X5.out
        replace xf := box_frozen X5.out
        replace hxd := hxd.below hb5
        replace hov := hov.below hb5
        go_wp2_with fail
        refine (copy_any _ (natsI S) _ hov (by rw [HSl.out]; omega)).mono ?_
        rintro e w6 ⟨A9, c9, rfl, ho7, hb6⟩
        have hw6 := hw5.trans (hb6.mono hw5.size)
        have G6 := Lib.hid (box_step hb6 G5.out)
        replace gc := box_cells G6.out
        replace gf := box_frozen G6.out
        have X6 := Lib.hid (box_step hb6 X5.out)
        replace xc := box_cells X6.out
        replace xf := box_frozen X6.out
        replace hxd := hxd.below hb6
        replace hov := hov.below hb6
        rw [HSl.out] at ho7 ⊢
        have hn7 := nums_of_own (K := .i64) ho7
        have hd5b := hd5.below hb6
        clear ho7
        go_wp2_with fail
        refine (HLD.out _ _ _ _ hd5b hn7).mono ?_
        rintro e w7 ⟨rfl, hb7⟩
        have hw7 := hw6.trans (hb7.mono hw6.size)
        have G7 := Lib.hid (box_step hb7 G6.out)
        replace gc := box_cells G7.out
        replace gf := box_frozen G7.out
        have X7 := Lib.hid (box_step hb7 X6.out)
        replace xc := box_cells X7.out
        replace xf := box_frozen X7.out
        replace hxd := hxd.below hb7
        replace hov := hov.below hb7
        clear hd5 hd5b hn7
        go_wp2_with fail
        refine (HDX.out _ _ _ hxd).mono ?_
        rintro e w8 ⟨B18, B28, e18, e28, rfl, hd8, hb8⟩
        have hw8 := hw7.trans (hb8.mono hw7.size)
        have G8 := Lib.hid (box_step hb8 G7.out)
        replace gc := box_cells G8.out
        replace gf := box_frozen G8.out
        have X8 := Lib.hid (box_step hb8 X7.out)
        replace xc := box_cells X8.out
        replace xf := box_frozen X8.out
        replace hxd := hxd.below hb8
        replace hov := hov.below hb8
        go_wp2_with fail
        refine (copy_any _ (natsI S) _ hov (by rw [HSl.out]; omega)).mono ?_
        rintro e w9 ⟨A9, c9, rfl, ho7, hb9⟩
        have hw9 := hw8.trans (hb9.mono hw8.size)
        have G9 := Lib.hid (box_step hb9 G8.out)
        replace gc := box_cells G9.out
        replace gf := box_frozen G9.out
        have X9 := Lib.hid (box_step hb9 X8.out)
        replace xc := box_cells X9.out
        replace xf := box_frozen X9.out
        replace hxd := hxd.below hb9
        replace hov := hov.below hb9
        rw [HSl.out] at ho7 ⊢
        have hn7 := nums_of_own (K := .i64) ho7
        have hd8b := hd8.below hb9
        clear ho7
        go_wp2_with fail
        refine (HLX.out _ _ _ _ hd8b hn7).mono ?_
        rintro e w10 ⟨rfl, hb10⟩
        have hw10 := hw9.trans (hb10.mono hw9.size)
        have G10 := Lib.hid (box_step hb10 G9.out)
        replace gc := box_cells G10.out
        replace gf := box_frozen G10.out
        have X10 := Lib.hid (box_step hb10 X9.out)
        replace xc := box_cells X10.out
        replace xf := box_frozen X10.out
        replace hxd := hxd.below hb10
        replace hov := hov.below hb10
        clear hd8 hd8b hn7
        go_wp2_with fail
        refine (DayC_any d _ _ _ (Hda.out.below hw10) hm).mono ?_
        rintro e w11 ⟨B111, B211, e111, e211, rfl, hd11, hb11⟩
        have hw11 := hw10.trans (hb11.mono hw10.size)
        have G11 := Lib.hid (box_step hb11 G10.out)
        replace gc := box_cells G11.out
        replace gf := box_frozen G11.out
        have X11 := Lib.hid (box_step hb11 X10.out)
        replace xc := box_cells X11.out
        replace xf := box_frozen X11.out
        replace hxd := hxd.below hb11
        replace hov := hov.below hb11
        go_wp2_with fail
        refine (HBD.out _ _ _ hd11).mono ?_
        rintro e w12 ⟨A8, c8, rfl, hb12⟩
        have hw12 := hw11.trans (hb12.mono hw11.size)
        have G12 := Lib.hid (box_step hb12 G11.out)
        replace gc := box_cells G12.out
        replace gf := box_frozen G12.out
        have X12 := Lib.hid (box_step hb12 X11.out)
        replace xc := box_cells X12.out
        replace xf := box_frozen X12.out
        replace hxd := hxd.below hb12
        replace hov := hov.below hb12
        clear hd11
        go_wp2_with fail
        refine (HDX.out _ _ _ hxd).mono ?_
        rintro e w13 ⟨B113, B213, e113, e213, rfl, hd13, hb13⟩
        have hw13 := hw12.trans (hb13.mono hw12.size)
        have G13 := Lib.hid (box_step hb13 G12.out)
        replace gc := box_cells G13.out
        replace gf := box_frozen G13.out
        have X13 := Lib.hid (box_step hb13 X12.out)
        replace xc := box_cells X13.out
        replace xf := box_frozen X13.out
        replace hxd := hxd.below hb13
        replace hov := hov.below hb13
        go_wp2_with fail
        refine (HBX.out _ _ _ hd13).mono ?_
        rintro e w14 ⟨A9, c9, rfl, hb14⟩
        have hw14 := hw13.trans (hb14.mono hw13.size)
        have G14 := Lib.hid (box_step hb14 G13.out)
        replace gc := box_cells G14.out
        replace gf := box_frozen G14.out
        have X14 := Lib.hid (box_step hb14 X13.out)
        replace xc := box_cells X14.out
        replace xf := box_frozen X14.out
        replace hxd := hxd.below hb14
        replace hov := hov.below hb14
        clear hd13
        go_wp2_with fail
        refine (wakes_any _).mono ?_
        rintro e w15 ⟨rfl, hb15⟩
        have hw15 := hw14.trans (hb15.mono hw14.size)
        have G15 := Lib.hid (box_step hb15 G14.out)
        replace gc := box_cells G15.out
        replace gf := box_frozen G15.out
        have X15 := Lib.hid (box_step hb15 X14.out)
        replace xc := box_cells X15.out
        replace xf := box_frozen X15.out
        replace hxd := hxd.below hb15
        replace hov := hov.below hb15
        go_wp2
        go_ret
        exact ⟨rfl, hw15⟩
      · have hfn : (faultD X != 0) = true := by simpa using hfx
        generalize faultD X = F at *
        clear hfx
        go_wp2_with fail
        refine (HFX.out _ _ _ hxd).mono ?_
        rintro e w3 ⟨rfl, hb3⟩
        have hw3 := hwb.trans (hb3.mono hwb.size)
        have G3 := Lib.hid (box_step hb3 Gb.out)
        replace gc := box_cells G3.out
        replace gf := box_frozen G3.out
        have X3 := Lib.hid (box_step hb3 Xb.out)
        replace xc := box_cells X3.out
        replace xf := box_frozen X3.out
        replace hxd := hxd.below hb3
        go_wp2_with fail
        refine (wakes_any _).mono ?_
        rintro e w4 ⟨rfl, hb4⟩
        have hw4 := hw3.trans (hb4.mono hw3.size)
        have G4 := Lib.hid (box_step hb4 G3.out)
        replace gc := box_cells G4.out
        replace gf := box_frozen G4.out
        have X4 := Lib.hid (box_step hb4 X3.out)
        replace xc := box_cells X4.out
        replace xf := box_frozen X4.out
        replace hxd := hxd.below hb4
        go_wp2
        go_ret
        exact ⟨rfl, hw4⟩
theorem Later_law (d : DDay) (u z : Value) (x y : Nat) (w : World) (hda : DayAt w u z d) (hx : x < 65536) (hy : y < 65536) :
    Calls Try.prog 5 #[.agg #[.int .i64 d.law.piece, .int .i64 d.law.drive, .int .i64 d.law.spread, .int .i64 d.law.brk, .int .i64 d.law.on, .int .i64 d.law.off, .int .i64 d.law.least, .int .i64 d.law.pieces, u, z], .int .u16 (x : Int), .int .u16 (y : Int)] w (Gives w (.bool true)) := by
  cases hl : lightB d with
  | false => exact Later_dark d u z x y w hda hx hy hl
  | true =>
    by_cases hs : segN d.blocks = 0
    · exact Later_none d u z x y w hda hx hy hl hs
    · exact Later_main d u z x y w hda hx hy hl (by omega)
end Go.Proofs.Ytllobkhdeahgpaa
