import Derived.Test.YtllobkhdeahgpaaY1
set_option linter.unusedVariables false
set_option linter.unusedSimpArgs false
namespace Go.Proofs.Ytllobkhdeahgpaa
open Go Go.Proofs Go.RowKit

/-! ### DutyBlocks -/
def rotK (n cut : Nat) (l : List Nat) (k : Nat) : List Nat := (List.range k).filter fun s => l.contains ((s + cut) % n)
theorem rotK_step (n cut : Nat) (l : List Nat) (k : Nat) : rotK n cut l (k + 1) = rotK n cut l k ++ if l.contains ((k + cut) % n) then [k] else [] := by
  unfold rotK
  rw [List.range_succ, List.filter_append]
  congr 1
  simp only [List.filter_cons, List.filter_nil]
theorem rotK_len (n cut : Nat) (l : List Nat) (k : Nat) : (rotK n cut l k).length ≤ k := by
  unfold rotK
  exact Nat.le_trans (List.length_filter_le _ _) (by simp)
theorem has_nat (l : List Nat) (s : Nat) : decide ((s : Int) ∈ natsI l) = l.contains s := by
  rw [Bool.eq_iff_iff, List.contains_iff_mem, decide_eq_true_eq]
  exact mem_natsI
set_option maxRecDepth 100000 in
set_option maxHeartbeats 800000 in
theorem Blocks_dark (d : DDay) (u z : Value) (x y : Nat) (w : World) (hda : DayAt w u z d) (hx : x < 256) (hy : y < 65536) (hl : lightB d = false) :
    Calls Try.prog 6 #[.agg #[.int .i64 d.law.piece, .int .i64 d.law.drive, .int .i64 d.law.spread, .int .i64 d.law.brk, .int .i64 d.law.on, .int .i64 d.law.off, .int .i64 d.law.least, .int .i64 d.law.pieces, u, z], .int .u8 (x : Int), .int .u16 (y : Int)] w (Gives w (.bool true)) := by
  obtain ⟨A1, c1, rfl, _, _⟩ := hda.blocks.form
  obtain ⟨A2, c2, rfl, _, _⟩ := hda.walk.form
  have hw0 : Below w.heap.size w (w.alloc (.cells #[.int .i64 d.law.piece, .int .i64 d.law.drive, .int .i64 d.law.spread, .int .i64 d.law.brk, .int .i64 d.law.on, .int .i64 d.law.off, .int .i64 d.law.least, .int .i64 d.law.pieces, .slice A1 d.blocks.length c1, .slice A2 d.walk.length c2] 27)) := (Below.refl _ _).alloc (Nat.le_refl _) _
  have G0 := Lib.hid (heap_alloc_new w (.cells #[.int .i64 d.law.piece, .int .i64 d.law.drive, .int .i64 d.law.spread, .int .i64 d.law.brk, .int .i64 d.law.on, .int .i64 d.law.off, .int .i64 d.law.least, .int .i64 d.law.pieces, .slice A1 d.blocks.length c1, .slice A2 d.walk.length c2] 27 (0, 0)))
  have Hda := Lib.hid hda
  have Hl := Lib.hid hl
  clear hl
  clear hda
  go_enter Try.func6, Try.ntmps6
  have gc := box_cells G0.out
  have gf := box_frozen G0.out
  go_wp2_with fail
  refine (Gives.to Hl.out (light_any d _ _ _ (Hda.out.below hw0))).mono ?_
  rintro e w1 ⟨rfl, hb1⟩
  have hw1 := hw0.trans (hb1.mono hw0.size)
  have G1 := Lib.hid (box_step hb1 G0.out)
  replace gc := box_cells G1.out
  replace gf := box_frozen G1.out
  go_wp2_with fail
  refine (wakes_any _).mono ?_
  rintro e w2 ⟨rfl, hb2⟩
  have hw2 := hw1.trans (hb2.mono hw1.size)
  have G2 := Lib.hid (box_step hb2 G1.out)
  replace gc := box_cells G2.out
  replace gf := box_frozen G2.out
  go_wp2
  go_ret
  exact ⟨rfl, hw2⟩
set_option maxRecDepth 100000 in
set_option maxHeartbeats 1600000 in
theorem Blocks_none (d : DDay) (u z : Value) (x y : Nat) (w : World) (hda : DayAt w u z d) (hx : x < 256) (hy : y < 65536) (hl : lightB d = true) (hs : segN d.blocks = 0) :
    Calls Try.prog 6 #[.agg #[.int .i64 d.law.piece, .int .i64 d.law.drive, .int .i64 d.law.spread, .int .i64 d.law.brk, .int .i64 d.law.on, .int .i64 d.law.off, .int .i64 d.law.least, .int .i64 d.law.pieces, u, z], .int .u8 (x : Int), .int .u16 (y : Int)] w (Gives w (.bool true)) := by
  have hlt := hl
  unfold lightB at hlt
  rw [Bool.and_eq_true, decide_eq_true_eq] at hlt
  obtain ⟨_, hm, hf, hf0⟩ := ready_ok hlt.1
  have h8 := hlt.2
  have hd := fault_ok hf
  have Hd := Lib.hid hd
  have Hf := Lib.hid hf
  clear hlt hd hf hf0
  have hsI : (((segN d.blocks : Nat) : Int) == 0) = true := by rw [hs]; rfl
  clear hs
  obtain ⟨A1, c1, rfl, _, _⟩ := hda.blocks.form
  obtain ⟨A2, c2, rfl, _, _⟩ := hda.walk.form
  have hw0 : Below w.heap.size w (w.alloc (.cells #[.int .i64 d.law.piece, .int .i64 d.law.drive, .int .i64 d.law.spread, .int .i64 d.law.brk, .int .i64 d.law.on, .int .i64 d.law.off, .int .i64 d.law.least, .int .i64 d.law.pieces, .slice A1 d.blocks.length c1, .slice A2 d.walk.length c2] 27)) := (Below.refl _ _).alloc (Nat.le_refl _) _
  have G0 := Lib.hid (heap_alloc_new w (.cells #[.int .i64 d.law.piece, .int .i64 d.law.drive, .int .i64 d.law.spread, .int .i64 d.law.brk, .int .i64 d.law.on, .int .i64 d.law.off, .int .i64 d.law.least, .int .i64 d.law.pieces, .slice A1 d.blocks.length c1, .slice A2 d.walk.length c2] 27 (0, 0)))
  have Hda := Lib.hid hda
  have Hl := Lib.hid hl
  clear hl
  clear hda
  go_enter Try.func6, Try.ntmps6
  have gc := box_cells G0.out
  have gf := box_frozen G0.out
  go_wp2_with fail
  refine (Gives.to Hl.out (light_any d _ _ _ (Hda.out.below hw0))).mono ?_
  rintro e w1 ⟨rfl, hb1⟩
  have hw1 := hw0.trans (hb1.mono hw0.size)
  have G1 := Lib.hid (box_step hb1 G0.out)
  replace gc := box_cells G1.out
  replace gf := box_frozen G1.out
  go_wp2_with fail
  refine (Segments_any d _ _ _ (Hda.out.below hw1) hm).mono ?_
  rintro e w2 ⟨rfl, hb2⟩
  have hw2 := hw1.trans (hb2.mono hw1.size)
  have G2 := Lib.hid (box_step hb2 G1.out)
  replace gc := box_cells G2.out
  replace gf := box_frozen G2.out
  go_wp2_with fail
  refine (wakes_any _).mono ?_
  rintro e w3 ⟨rfl, hb3⟩
  have hw3 := hw2.trans (hb3.mono hw2.size)
  have G3 := Lib.hid (box_step hb3 G2.out)
  replace gc := box_cells G3.out
  replace gf := box_frozen G3.out
  go_wp2
  go_ret
  exact ⟨rfl, hw3⟩
set_option maxRecDepth 100000 in
set_option maxHeartbeats 6400000 in
theorem Blocks_main (d : DDay) (u z : Value) (x y : Nat) (w : World) (hda : DayAt w u z d) (hx : x < 256) (hy : y < 65536) (hl : lightB d = true) (hs : 0 < segN d.blocks) :
    Calls Try.prog 6 #[.agg #[.int .i64 d.law.piece, .int .i64 d.law.drive, .int .i64 d.law.spread, .int .i64 d.law.brk, .int .i64 d.law.on, .int .i64 d.law.off, .int .i64 d.law.least, .int .i64 d.law.pieces, u, z], .int .u8 (x : Int), .int .u16 (y : Int)] w (Gives w (.bool true)) := by
  have hlt := hl
  unfold lightB at hlt
  rw [Bool.and_eq_true, decide_eq_true_eq] at hlt
  obtain ⟨_, hm, hf, hf0⟩ := ready_ok hlt.1
  have h8 := hlt.2
  have hd := fault_ok hf
  have Hd := Lib.hid hd
  have Hf := Lib.hid hf
  clear hlt hd hf hf0
  have hsI : (((segN d.blocks : Nat) : Int) == 0) = false := by rw [Bool.eq_false_iff]; simp only [ne_eq, beq_iff_eq]; omega
  have hbp := blocks_pos hs
  obtain ⟨i1, hi1, hy0, hy1, hy2⟩ := info_parts infoBlR
  obtain ⟨i0, hi0, hz0, hz1, hz2⟩ := info_parts infoI
  obtain ⟨t, ht⟩ : ∃ t : Nat, x % d.blocks.length = t := ⟨_, rfl⟩
  have htl : t < d.blocks.length := by rw [← ht]; exact Nat.mod_lt _ hbp
  have htI : (x : Int) % (d.blocks.length : Int) = (t : Int) := by rw [← ht]; push_cast; rfl
  have htT : (x : Int).tmod (d.blocks.length : Int) = (t : Int) := by rw [Int.tmod_eq_emod_of_nonneg (by omega)]; exact htI
  clear ht
  obtain ⟨X, hX⟩ : ∃ X, X = rotD t d := ⟨_, rfl⟩
  obtain ⟨cut, hcut⟩ : ∃ c : Nat, segN (d.blocks.take t) = c := ⟨_, rfl⟩
  obtain ⟨LG, hLG⟩ : ∃ b : Bool, legalL d (setL (segN d.blocks) y) = b := ⟨_, rfl⟩
  have hod := set_duty (d := d) y hs
  have hdd := Hd.out
  have hXok : DayOk X := by rw [hX]; exact rot_ok (by omega) hdd
  have hXm := day_mild hXok
  have HXf := Lib.hid (show (faultD X != 0) = false by rw [day_ok.2 hXok]; rfl)
  have HXl := Lib.hid (show X.law = d.law by rw [hX]; rfl)
  have hxd : IsDuty X (rotL (segN d.blocks) cut (setL (segN d.blocks) y)) := by rw [hX, ← hcut]; exact rot_duty (by omega) hod
  have hxl : legalL X (rotL (segN d.blocks) cut (setL (segN d.blocks) y)) = LG := by rw [hX, ← hcut, rot_legal (by omega) hdd hod, hLG]
  have hlo := setL_len (segN d.blocks) y
  obtain ⟨e1, e2, e3⟩ := best_eqs (d := d) (x := X) (by rw [hX]; exact rot_best (by omega) hdd)
  obtain ⟨BL, hBL⟩ : ∃ b, bestLen d = b := ⟨_, rfl⟩
  obtain ⟨BP, hBP⟩ : ∃ b, bestPay d = b := ⟨_, rfl⟩
  obtain ⟨BE, hBE⟩ : ∃ b, bestE d = b := ⟨_, rfl⟩
  have HBD := Lib.hid (show ∀ (u z : Value) (w' : World), DayAt w' u z d → Calls Try.prog 14 #[.agg #[.int .i64 d.law.piece, .int .i64 d.law.drive, .int .i64 d.law.spread, .int .i64 d.law.brk, .int .i64 d.law.on, .int .i64 d.law.off, .int .i64 d.law.least, .int .i64 d.law.pieces, u, z]] w' (GivesBest3 BL BP BE w') from fun u z w' h => Best3_any d u z w' h hm Hf.out hBL hBP hBE)
  have HBX := Lib.hid (show ∀ (u z : Value) (w' : World), DayAt w' u z X → Calls Try.prog 14 #[.agg #[.int .i64 d.law.piece, .int .i64 d.law.drive, .int .i64 d.law.spread, .int .i64 d.law.brk, .int .i64 d.law.on, .int .i64 d.law.off, .int .i64 d.law.least, .int .i64 d.law.pieces, u, z]] w' (GivesBest3 BL BP BE w') from fun u z w' h => HXl.out ▸ Best3_any X u z w' h hXm HXf.out (e1.trans hBL) (e2.trans hBP) (e3.trans hBE))
  have HDX := Lib.hid (show ∀ (u z : Value) (w' : World), DayAt w' u z X → Calls Try.prog 15 #[.agg #[.int .i64 d.law.piece, .int .i64 d.law.drive, .int .i64 d.law.spread, .int .i64 d.law.brk, .int .i64 d.law.on, .int .i64 d.law.off, .int .i64 d.law.least, .int .i64 d.law.pieces, u, z]] w' (GivesDay d.law X w') from fun u z w' h => HXl.out ▸ DayC_any X u z w' h hXm)
  obtain ⟨S, hS⟩ : ∃ S : List Nat, setL (segN d.blocks) y = S := ⟨_, rfl⟩
  rw [hS] at hLG hod hxd hxl hlo
  have HLD := Lib.hid (show ∀ (u z v : Value) (w' : World), DayAt w' u z d → NumsAt .i64 w' v (natsI S) → Calls Try.prog 20 #[.agg #[.int .i64 d.law.piece, .int .i64 d.law.drive, .int .i64 d.law.spread, .int .i64 d.law.brk, .int .i64 d.law.on, .int .i64 d.law.off, .int .i64 d.law.least, .int .i64 d.law.pieces, u, z], v] w' (Gives w' (.tuple #[.bool LG, .int .i64 0])) from fun u z v w' h k => by
    have := LegalS_any d u z v S w' h hm Hf.out k hod
    rwa [hLG] at this)
  have HLX := Lib.hid (show ∀ (u z v : Value) (w' : World), DayAt w' u z X → NumsAt .i64 w' v (natsI (rotL (segN d.blocks) cut S)) → Calls Try.prog 20 #[.agg #[.int .i64 d.law.piece, .int .i64 d.law.drive, .int .i64 d.law.spread, .int .i64 d.law.brk, .int .i64 d.law.on, .int .i64 d.law.off, .int .i64 d.law.least, .int .i64 d.law.pieces, u, z], v] w' (Gives w' (.tuple #[.bool LG, .int .i64 0])) from fun u z v w' h k => by
    have := LegalS_any X u z v (rotL (segN d.blocks) cut S) w' h hXm HXf.out k hxd
    rwa [hxl, HXl.out] at this)
  have HSS := Lib.hid hS
  have HX := Lib.hid hX
  have HCut := Lib.hid hcut
  have HSl := Lib.hid (natsI_len S)
  have hcutn : cut ≤ segN d.blocks := by rw [← hcut]; have := segN_parts t d.blocks; omega
  clear e1 e2 e3 hBL hBP hBE hXok hLG hod hdd hxd hxl hS hX hcut
  obtain ⟨A1, c1, rfl, _, _⟩ := hda.blocks.form
  obtain ⟨A2, c2, rfl, _, _⟩ := hda.walk.form
  obtain ⟨bb, oo, us, rfl, hbl, hul, hcl, hui⟩ := blocks_src hda.blocks hbp
  have hw0 : Below w.heap.size w (w.alloc (.cells #[.int .i64 d.law.piece, .int .i64 d.law.drive, .int .i64 d.law.spread, .int .i64 d.law.brk, .int .i64 d.law.on, .int .i64 d.law.off, .int .i64 d.law.least, .int .i64 d.law.pieces, .slice (some ⟨bb, oo, none⟩) d.blocks.length c1, .slice A2 d.walk.length c2] 27)) := (Below.refl _ _).alloc (Nat.le_refl _) _
  have G0 := Lib.hid (heap_alloc_new w (.cells #[.int .i64 d.law.piece, .int .i64 d.law.drive, .int .i64 d.law.spread, .int .i64 d.law.brk, .int .i64 d.law.on, .int .i64 d.law.off, .int .i64 d.law.least, .int .i64 d.law.pieces, .slice (some ⟨bb, oo, none⟩) d.blocks.length c1, .slice A2 d.walk.length c2] 27 (0, 0)))
  have Hda := Lib.hid hda
  have Hcl := Lib.hid hcl
  have Hui := Lib.hid hui
  have Hul := Lib.hid hul
  clear hcl hui hul
  have Hl := Lib.hid hl
  clear hl
  clear hda
  go_enter Try.func6, Try.ntmps6
  have gc := box_cells G0.out
  have gf := box_frozen G0.out
  go_wp2_with fail
  refine (Gives.to Hl.out (light_any d _ _ _ (Hda.out.below hw0))).mono ?_
  rintro e w1 ⟨rfl, hb1⟩
  have hw1 := hw0.trans (hb1.mono hw0.size)
  have G1 := Lib.hid (box_step hb1 G0.out)
  replace gc := box_cells G1.out
  replace gf := box_frozen G1.out
  go_wp2_with fail
  refine (Segments_any d _ _ _ (Hda.out.below hw1) hm).mono ?_
  rintro e w2 ⟨rfl, hb2⟩
  have hw2 := hw1.trans (hb2.mono hw1.size)
  have G2 := Lib.hid (box_step hb2 G1.out)
  replace gc := box_cells G2.out
  replace gf := box_frozen G2.out
  go_wp2_with fail
  refine wp_name (fun W => Below w.heap.size w W ∧ Below w2.heap.size w2 W ∧ W.heap[w.heap.size]? = some (.cells #[.int .i64 d.law.piece, .int .i64 d.law.drive, .int .i64 d.law.spread, .int .i64 d.law.brk, .int .i64 d.law.on, .int .i64 d.law.off, .int .i64 d.law.least, .int .i64 d.law.pieces, .slice (some ⟨bb, oo, none⟩) d.blocks.length c1, .slice A2 d.walk.length c2] 27 (0, 0)) ∧ W.heap[w2.heap.size]? = some (.cells #[.int .i64 d.law.piece, .int .i64 d.law.drive, .int .i64 d.law.spread, .int .i64 d.law.brk, .int .i64 d.law.on, .int .i64 d.law.off, .int .i64 d.law.least, .int .i64 d.law.pieces, .slice (some ⟨bb, oo, none⟩) d.blocks.length c1, .slice A2 d.walk.length c2] 27 (0, 0))) ⟨hw2.alloc hw2.size _, (Below.refl _ _).alloc (Nat.le_refl _) _, (Below.heap_alloc w2 _ _ (by have := (Array.getElem?_eq_some_iff.1 G2.out).1; exact this)).trans G2.out, heap_alloc_new w2 _⟩ (fun W hW => ?_)
  obtain ⟨hwa, hba, hga, hxa⟩ := hW
  have Ga := Lib.hid hga
  have Xa := Lib.hid hxa
  have Ha := Lib.hid hba
  replace gc := box_cells hga
  replace gf := box_frozen hga
  clear hga hxa hba
  refine wp_region_noPanic ?_
  refine wp_region_pick [1, 2, 3, 4, 6, 7, 8, 9] [0, 5, 10, 11, 12] (fun _ => true) (fun w' => w'.heap[w.heap.size]? = some (.cells #[.int .i64 d.law.piece, .int .i64 d.law.drive, .int .i64 d.law.spread, .int .i64 d.law.brk, .int .i64 d.law.on, .int .i64 d.law.off, .int .i64 d.law.least, .int .i64 d.law.pieces, .slice (some ⟨bb, oo, none⟩) d.blocks.length c1, .slice A2 d.walk.length c2] 27 (0, 0))) (by kernel_rfl) (by kernel_rfl) (fun _ _ _ _ _ h => h) Ga.out (fun hne => ?_)
  have n0 := fun x : Meets (fun w' => w'.heap[w.heap.size]? = some (.cells #[.int .i64 d.law.piece, .int .i64 d.law.drive, .int .i64 d.law.spread, .int .i64 d.law.brk, .int .i64 d.law.on, .int .i64 d.law.off, .int .i64 d.law.least, .int .i64 d.law.pieces, .slice (some ⟨bb, oo, none⟩) d.blocks.length c1, .slice A2 d.walk.length c2] 27 (0, 0))) => box_cells x.property 8
  simp only [pick, pickN, List.filterMap_cons, List.filterMap_nil, List.getElem?_cons_zero, List.getElem?_cons_succ, Option.map_some]
  repeat (change wpQuiet _ _ _ _ (_ :: _) _; go_big_quiet_step (fail))
  refine wpQuiet_nil ?_
  clear n0 hne
  have hB0 : Below W.heap.size W W.drew := (Below.refl _ _).drew
  obtain ⟨v0, hv0⟩ : ∃ V, V = W.drew := ⟨_, rfl⟩
  rw [← hv0] at hB0 ⊢
  clear hv0
  have ltG := (Array.getElem?_eq_some_iff.1 Ga.out).1
  have ltX := (Array.getElem?_eq_some_iff.1 Xa.out).1
  refine wpSeqP_step (fun K hK => ?_)
  go_simp
  have hB1 := hB0.alloc hB0.size (.cells #[] 56)
  have eE := own_mono (World.ownsRow_lit (base := v0.heap.size) (e := 56) (size := 1) v0 #[] 0 (Nat.le_refl _) (by simp [maxLen]) (by simp)) hB0.size
  refine hK.out _ _ (fun _ => (hB1.block _ ltG).trans Ga.out) ?_
  clear hK K
  obtain ⟨g, hg⟩ : ∃ g, v0.heap.size = g := ⟨_, rfl⟩
  rw [hg] at eE ⊢
  clear hg
  generalize v0.alloc (.cells #[] 56) = v1 at *
  have hul := Hul.out
  have hbA : Below w.heap.size w v1 := hwa.trans (hB1.mono hwa.size)
  have hcA : ∀ j u, us[j]? = some u → v1.cell? ⟨bb, oo + j, none⟩ = some u := fun j u hu => cell_below hbA (Hcl.out j u hu)
  have s1 := src_cells hul hcA t (m := d.blocks.length - t) (by omega)
  have s2 := src_cells hul hcA 0 (m := t) (by omega)
  rw [List.take_of_length_le (by simp; omega)] at s1
  rw [List.drop_zero, Nat.add_zero] at s2
  have o1 : ∀ u ∈ us.drop t, u.oneCell' = true := fun u hu => BlocksIn.one Hui.out u (List.mem_of_mem_drop hu)
  have o2 : ∀ u ∈ us.take t, u.oneCell' = true := fun u hu => BlocksIn.one Hui.out u (List.mem_of_mem_take hu)
  have hlb := Hd.out.blocks
  have Hs2 := Lib.hid s2
  have Ho2 := Lib.hid o2
  clear hcA s2 o2 hul
  refine wpSeqP_step (fun K hK => ?_)
  refine step_append_src _ rfl (.tmp 41) (.tmp 45) 24 rfl W.heap.size 56 i1 _ 1 24 Try.underlying24 hi1 hy0 hy1 hy2 rfl (by omega) (.slice (some ⟨g, 0, none⟩) 0 0) 0 [] rfl eE (some ⟨bb, oo + t, none⟩) (d.blocks.length - t) (c1 - t) (us.drop t) rfl s1 o1 (by simp [maxLen]; omega) (by omega) hB1.size ?_
  intro AA2 cc2 v2 own2 hg2 _
  simp only [Nat.zero_add, List.nil_append] at own2 ⊢
  have hB2 := below_grown hB1 hg2 hB1.size eE (Nat.le_refl _)
  refine hK.out _ _ (fun _ => (hB2.block _ ltG).trans Ga.out) ?_
  clear hK K s1 o1
  have hbB : Below w.heap.size w v2 := hwa.trans (hB2.mono hwa.size)
  have s2 : Src v2 (some ⟨bb, oo, none⟩) t 1 (us.take t) := by
    have h := src_cells Hul.out (fun j u hu => cell_below hbB (Hcl.out j u hu)) 0 (m := t) (by omega)
    rw [List.drop_zero, Nat.add_zero] at h
    exact h
  refine wpSeqP_step (fun K hK => ?_)
  refine step_append_src _ rfl (.tmp 46) (.tmp 50) 24 rfl W.heap.size 56 i1 _ 1 24 Try.underlying24 hi1 hy0 hy1 hy2 rfl (by omega) (.slice AA2 (d.blocks.length - t) cc2) (d.blocks.length - t) (us.drop t) rfl own2 (some ⟨bb, oo, none⟩) t c1 (us.take t) rfl s2 Ho2.out (by simp [maxLen]; omega) (by omega) hB2.size ?_
  intro AA3 cc3 v3 own3 hg3 _
  have hB3 := below_grown hB2 hg3 hB2.size own2 (Nat.le_refl _)
  rw [show d.blocks.length - t + t = d.blocks.length by omega] at own3 ⊢
  have Gb := Lib.hid ((hB3.block _ ltG).trans Ga.out)
  have Xb := Lib.hid ((hB3.block _ ltX).trans Xa.out)
  have xf := box_frozen Xb.out
  have xc := box_cells Xb.out
  refine hK.out _ _ (fun _ => Gb.out) ?_
  clear hK K hbB s2
  refine wpSeqP_step (fun K hK => ?_)
  go_simp
  refine hK.out _ _ (fun _ => Gb.out) ?_
  clear hK K
  refine wpSeqP_step (fun K hK => ?_)
  go_simp
  have hrd : DayAt (v3.setCell ⟨w2.heap.size, 8, none⟩ (.slice AA3 d.blocks.length cc3)) (.slice AA3 d.blocks.length cc3) (.slice A2 d.walk.length c2) X := by
    have hbv : Below w.heap.size w (v3.setCell ⟨w2.heap.size, 8, none⟩ (.slice AA3 d.blocks.length cc3)) := (hwa.trans (hB3.mono hwa.size)).setCell (by exact hw2.size) _
    have e1 : X.blocks = d.blocks.drop t ++ d.blocks.take t := by rw [HX.out]; rfl
    have e2 : X.walk = d.walk := by rw [HX.out]; rfl
    refine ⟨?_, ?_⟩
    · rw [e1]
      exact blocks_of_in (own_set own3 (own_not own3 Xb.out (by decide)) _) (((Hui.out.drop t).append (Hui.out.take t)).below hbv)
    · rw [e2]
      exact Hda.out.walk.below hbv
  have Gv := Lib.hid (blk_other Gb.out (show w.heap.size ≠ w2.heap.size from by have := (Array.getElem?_eq_some_iff.1 G2.out).1; omega) (o := 8) (.slice AA3 d.blocks.length cc3))
  have Xv := Lib.hid (show (v3.setCell ⟨w2.heap.size, 8, none⟩ (.slice AA3 d.blocks.length cc3)).heap[w2.heap.size]? = some (.cells #[.int .i64 d.law.piece, .int .i64 d.law.drive, .int .i64 d.law.spread, .int .i64 d.law.brk, .int .i64 d.law.on, .int .i64 d.law.off, .int .i64 d.law.least, .int .i64 d.law.pieces, .slice AA3 d.blocks.length cc3, .slice A2 d.walk.length c2] 27 (0, 0)) from by simpa only [List.setIfInBounds_toArray, List.set_cons_succ, List.set_cons_zero] using blk_set Xb.out (o := 8) (.slice AA3 d.blocks.length cc3))
  have hwv : Below w.heap.size w (v3.setCell ⟨w2.heap.size, 8, none⟩ (.slice AA3 d.blocks.length cc3)) := (hwa.trans (hB3.mono hwa.size)).setCell (by exact hw2.size) _
  refine hK.out _ _ (fun _ => Gv.out) ?_
  clear hK K
  refine wpSeqP_nil ?_
  refine NoPanic.normal ?_
  refine then_name (fun V => Below w.heap.size w V ∧ V.heap[w.heap.size]? = some (.cells #[.int .i64 d.law.piece, .int .i64 d.law.drive, .int .i64 d.law.spread, .int .i64 d.law.brk, .int .i64 d.law.on, .int .i64 d.law.off, .int .i64 d.law.least, .int .i64 d.law.pieces, .slice (some ⟨bb, oo, none⟩) d.blocks.length c1, .slice A2 d.walk.length c2] 27 (0, 0)) ∧ V.heap[w2.heap.size]? = some (.cells #[.int .i64 d.law.piece, .int .i64 d.law.drive, .int .i64 d.law.spread, .int .i64 d.law.brk, .int .i64 d.law.on, .int .i64 d.law.off, .int .i64 d.law.least, .int .i64 d.law.pieces, .slice AA3 d.blocks.length cc3, .slice A2 d.walk.length c2] 27 (0, 0)) ∧ DayAt V (.slice AA3 d.blocks.length cc3) (.slice A2 d.walk.length c2) X) ⟨hwv, Gv.out, Xv.out, hrd⟩ (fun Wv hW => ?_)
  obtain ⟨hwb, hgb, hxb, hxd⟩ := hW
  obtain ⟨wb, rfl⟩ : ∃ V : World, V = Wv := ⟨_, rfl⟩
  clear Gv Xv hwv hrd own3 own2 hg2 hg3 hB3 hB2 hB1 hB0 Gb Xb Ga Xa Ha eE xf xc gc gf
  have HN := Lib.hid (show w.heap.size ≤ w2.heap.size from hw2.size)
  generalize w2.heap.size = N at *
  have Gb := Lib.hid hgb
  have Xb := Lib.hid hxb
  have gc := box_cells Gb.out
  have gf := box_frozen Gb.out
  have xc := box_cells Xb.out
  have xf := box_frozen Xb.out
  clear hgb hxb
  go_wp2_with fail
  refine (Segments_any d _ _ _ (Hda.out.below hwb) hm).mono ?_
  rintro e w3 ⟨rfl, hb3⟩
  have hw3 := hwb.trans (hb3.mono hwb.size)
  have G3 := Lib.hid (box_step hb3 Gb.out)
  replace gc := box_cells G3.out
  replace gf := box_frozen G3.out
  have X3 := Lib.hid (box_step hb3 Xb.out)
  replace xc := box_cells X3.out
  replace xf := box_frozen X3.out
  replace hxd := hxd.below hb3
  go_wp2_with fail
  have Hbk := Lib.hid (Hda.out.blocks.below hw3)
  go_loop [10, 11] (fun s i => ∃ k : Nat, k ≤ t ∧ i = .int .i64 k ∧ s = .int .i64 (segN (d.blocks.take k) : Int)) (fun s i => t - (intOf i).toNat)
  case atStart => exact ⟨0, by omega, rfl, rfl⟩
  case round =>
    obtain ⟨k, hk, rfl, rfl⟩ := hrel
    by_cases hlt : k < t
    · have hkI : (k : Int) < (t : Int) := by omega
      obtain ⟨b3, o3, l, yv, e3, hl, cl, hnl, _⟩ := Hbk.out.at_ (k := k) (by omega)
      cases e3
      obtain ⟨A5, c5, rfl, _, _⟩ := hnl.form
      have Hst := Lib.hid (segN_take_succ hl)
      have h2 := Hd.out.two k l hl
      have h8' : segN (d.blocks.take k) ≤ 8 := by
        have := segN_take_all d.blocks k
        omega
      have hl14 := hm.block k l hl
      have hkn : (k : Int) < (d.blocks.length : Int) := by omega
      clear hl hnl
      generalize segN (d.blocks.take k) = C at *
      go_wp2
      go_round
      case rel => exact ⟨k + 1, by omega, by go_num, by rw [Hst.out]; go_num⟩
      case measure => simp [intOf]; omega
    · obtain rfl : k = t := by omega
      have hkI : ¬ (k : Int) < (k : Int) := by omega
      rw [HCut.out]
      clear Hbk
      go_wp2_with fail
      refine (Set_any d _ _ y _ (Hda.out.below hw3) hm (by omega) hy).mono ?_
      rintro e w4 ⟨A6, c6, rfl, ho6, hb4⟩
      have hw4 := hw3.trans (hb4.mono hw3.size)
      have G4 := Lib.hid (box_step hb4 G3.out)
      replace gc := box_cells G4.out
      replace gf := box_frozen G4.out
      have X4 := Lib.hid (box_step hb4 X3.out)
      replace xc := box_cells X4.out
      replace xf := box_frozen X4.out
      replace hxd := hxd.below hb4
      rw [HSS.out, HSl.out] at ho6 ⊢
      have hov := nums_of_own (K := .i64) ho6
      clear ho6
      have Hxd := Lib.hid hxd
      have Hov := Lib.hid hov
      clear hxd hov
      have Hrz := Lib.hid (show rotK (segN d.blocks) cut S (segN d.blocks) = rotL (segN d.blocks) cut S from rfl)
      go_wp2_with fail
      go_loopw [13, 14] (fun v i wr => ∃ (m : Nat) (A : Option Addr) (c : Nat), m ≤ segN d.blocks ∧ i = .int .i64 m ∧ v = .slice A (rotK (segN d.blocks) cut S m).length c ∧ Below w4.heap.size w4 wr ∧ wr.ownsRow w4.heap.size 3 1 v (rotK (segN d.blocks) cut S m).length ((natsI (rotK (segN d.blocks) cut S m)).map (.int .i64))) (fun v i wr => segN d.blocks - (intOf i).toNat)
      case atStart => exact ⟨0, none, 0, by omega, rfl, rfl, Below.refl _ _, by simpa [natsI, rotK] using World.ownsRow_nil w4 w4.heap.size 3 1⟩
      case round =>
        obtain ⟨m, A, c, hmk, rfl, rfl, hbr, hown⟩ := hrel
        obtain ⟨wo, rfl⟩ : ∃ wo : World, wo = wr := ⟨_, rfl⟩
        have hwo := hw4.trans (hbr.mono hw4.size)
        have Go := Lib.hid (box_step hbr G4.out)
        have Xo := Lib.hid (box_step hbr X4.out)
        replace gc := box_cells Go.out
        replace gf := box_frozen Go.out
        replace xc := box_cells Xo.out
        replace xf := box_frozen Xo.out
        have Hown := Lib.hid hown
        have hsz := hbr.size
        clear hown
        by_cases hlt2 : m < segN d.blocks
        · have hmI : (m : Int) < (segN d.blocks : Int) := by omega
          obtain ⟨q, hq⟩ : ∃ q : Nat, (m + cut) % segN d.blocks = q := ⟨_, rfl⟩
          have hqI : ((m : Int) + (cut : Int)) % (segN d.blocks : Int) = (q : Int) := by rw [← hq]; push_cast; rfl
          have hqT : ((m : Int) + (cut : Int)).tmod (segN d.blocks : Int) = (q : Int) := by rw [Int.tmod_eq_emod_of_nonneg (by omega)]; exact hqI
          have Hst := Lib.hid (rotK_step (segN d.blocks) cut S m)
          rw [hq] at Hst
          have Hhas := Lib.hid (Same.to (has_nat S q) (Has_any _ _ (q : Int) _ (Hov.out.below hbr)))
          have hle := rotK_len (segN d.blocks) cut S m
          generalize hnb : (rotK (segN d.blocks) cut S m).length = nb at *
          have Hnb := Lib.hid hnb
          clear hnb hq
          cases hH : S.contains q with
          | true =>
            rw [hH] at Hhas
            have Hs3 := Lib.hid (show rotK (segN d.blocks) cut S (m + 1) = rotK (segN d.blocks) cut S m ++ [m] by rw [Hst.out, hH]; rfl)
            clear hH
            go_wp2_with fail
            refine Hhas.out.mono ?_
            rintro e w1q ⟨rfl, rfl⟩
            go_wp2_with (at_builtin; go_loud (refine wpList_append_src _ rfl (.tmp 84) (.tmp 86) 28 rfl w4.heap.size 3 i0 _ 1 8 Try.underlying28 hi0 hz0 hz1 hz2 rfl (by omega) _ nb _ rfl (Hown.out.alloc _) (some ⟨wo.heap.size, 0, none⟩) 1 1 [.int .i64 (m : Int)] rfl (src_new _ _ _ _ _ rfl) (by simp [Value.oneCell']) (by simp [maxLen]; omega) (by omega) (by simp; omega) ?_; intro v1 w1 hown1 hg1 hat1; have Hg1 := Lib.hid hg1; obtain ⟨AA1, cc1, rfl⟩ := own_form hown1; have Hown1 := Lib.hid hown1; clear hown1 hg1 hat1))
            go_roundw
            case rel =>
              refine ⟨m + 1, AA1, cc1, by omega, by go_num, by rw [Hs3.out]; simp [Hnb.out], (hbr.alloc hsz _).grown Hg1.out (by simp; omega) fun q hq => (Hown.out.lt q hq).1, ?_⟩
              rw [Hs3.out]
              have := Hown1.out
              simpa [natsI, Hnb.out] using this
            case measure => simp [intOf]; omega
          | false =>
            rw [hH] at Hhas
            have Hs3 := Lib.hid (show rotK (segN d.blocks) cut S (m + 1) = rotK (segN d.blocks) cut S m by rw [Hst.out, hH]; simp)
            clear hH
            go_wp2_with fail
            refine Hhas.out.mono ?_
            rintro e w1q ⟨rfl, rfl⟩
            go_wp2_with fail
            go_roundw
            case rel => exact ⟨m + 1, A, c, by omega, by go_num, by rw [Hs3.out, Hnb.out], hbr, by rw [Hs3.out, Hnb.out]; exact Hown.out⟩
            case measure => simp [intOf]; omega
        · obtain rfl : m = segN d.blocks := by omega
          have hmI : ¬ (segN d.blocks : Int) < (segN d.blocks : Int) := by omega
          rw [Hrz.out] at Hown ⊢
          have hlv := nums_of_own (K := .i64) Hown.out
          have Hll := Lib.hid (natsI_len (rotL (segN d.blocks) cut S))
          have hxd := Hxd.out.below hbr
          have hov := Hov.out.below hbr
          clear Hown Hxd Hov
          go_wp2_with fail
          refine (DayC_any d _ _ _ (Hda.out.below hwo) hm).mono ?_
          rintro e w5 ⟨B15, B25, e15, e25, rfl, hd5, hb5⟩
          have hw5 := hwo.trans (hb5.mono hwo.size)
          have G5 := Lib.hid (box_step hb5 Go.out)
          replace gc := box_cells G5.out
          replace gf := box_frozen G5.out
          have X5 := Lib.hid (box_step hb5 Xo.out)
          replace xc := box_cells X5.out
          replace xf := box_frozen X5.out
          replace hxd := hxd.below hb5
          replace hov := hov.below hb5
          replace hlv := hlv.below hb5
          go_wp2_with fail
          refine (copy_any _ (natsI S) _ hov (by rw [HSl.out]; omega)).mono ?_
          rintro e w6 ⟨A7, c7, rfl, ho7, hb6⟩
          have hw6 := hw5.trans (hb6.mono hw5.size)
          have G6 := Lib.hid (box_step hb6 G5.out)
          replace gc := box_cells G6.out
          replace gf := box_frozen G6.out
          have X6 := Lib.hid (box_step hb6 X5.out)
          replace xc := box_cells X6.out
          replace xf := box_frozen X6.out
          replace hxd := hxd.below hb6
          replace hov := hov.below hb6
          replace hlv := hlv.below hb6
          rw [HSl.out] at ho7 ⊢
          have hn7 := nums_of_own (K := .i64) ho7
          have hd5b := hd5.below hb6
          clear ho7
          go_wp2_with fail
          refine (HLD.out _ _ _ _ hd5b hn7).mono ?_
          rintro e w7 ⟨rfl, hb7⟩
          have hw7 := hw6.trans (hb7.mono hw6.size)
          have G7 := Lib.hid (box_step hb7 G6.out)
          replace gc := box_cells G7.out
          replace gf := box_frozen G7.out
          have X7 := Lib.hid (box_step hb7 X6.out)
          replace xc := box_cells X7.out
          replace xf := box_frozen X7.out
          replace hxd := hxd.below hb7
          replace hov := hov.below hb7
          replace hlv := hlv.below hb7
          clear hd5 hd5b hn7
          go_wp2_with fail
          refine (HDX.out _ _ _ hxd).mono ?_
          rintro e w8 ⟨B18, B28, e18, e28, rfl, hd8, hb8⟩
          have hw8 := hw7.trans (hb8.mono hw7.size)
          have G8 := Lib.hid (box_step hb8 G7.out)
          replace gc := box_cells G8.out
          replace gf := box_frozen G8.out
          have X8 := Lib.hid (box_step hb8 X7.out)
          replace xc := box_cells X8.out
          replace xf := box_frozen X8.out
          replace hxd := hxd.below hb8
          replace hov := hov.below hb8
          replace hlv := hlv.below hb8
          go_wp2_with fail
          refine (HLX.out _ _ _ _ hd8 hlv).mono ?_
          rintro e w9 ⟨rfl, hb9⟩
          have hw9 := hw8.trans (hb9.mono hw8.size)
          have G9 := Lib.hid (box_step hb9 G8.out)
          replace gc := box_cells G9.out
          replace gf := box_frozen G9.out
          have X9 := Lib.hid (box_step hb9 X8.out)
          replace xc := box_cells X9.out
          replace xf := box_frozen X9.out
          replace hxd := hxd.below hb9
          replace hov := hov.below hb9
          replace hlv := hlv.below hb9
          clear hd8
          go_wp2_with fail
          refine (DayC_any d _ _ _ (Hda.out.below hw9) hm).mono ?_
          rintro e w10 ⟨B110, B210, e110, e210, rfl, hd10, hb10⟩
          have hw10 := hw9.trans (hb10.mono hw9.size)
          have G10 := Lib.hid (box_step hb10 G9.out)
          replace gc := box_cells G10.out
          replace gf := box_frozen G10.out
          have X10 := Lib.hid (box_step hb10 X9.out)
          replace xc := box_cells X10.out
          replace xf := box_frozen X10.out
          replace hxd := hxd.below hb10
          replace hov := hov.below hb10
          replace hlv := hlv.below hb10
          go_wp2_with fail
          refine (HBD.out _ _ _ hd10).mono ?_
          rintro e w11 ⟨A8, c8, rfl, hb11⟩
          have hw11 := hw10.trans (hb11.mono hw10.size)
          have G11 := Lib.hid (box_step hb11 G10.out)
          replace gc := box_cells G11.out
          replace gf := box_frozen G11.out
          have X11 := Lib.hid (box_step hb11 X10.out)
          replace xc := box_cells X11.out
          replace xf := box_frozen X11.out
          replace hxd := hxd.below hb11
          replace hov := hov.below hb11
          replace hlv := hlv.below hb11
          clear hd10
          go_wp2_with fail
          refine (HDX.out _ _ _ hxd).mono ?_
          rintro e w12 ⟨B112, B212, e112, e212, rfl, hd12, hb12⟩
          have hw12 := hw11.trans (hb12.mono hw11.size)
          have G12 := Lib.hid (box_step hb12 G11.out)
          replace gc := box_cells G12.out
          replace gf := box_frozen G12.out
          have X12 := Lib.hid (box_step hb12 X11.out)
          replace xc := box_cells X12.out
          replace xf := box_frozen X12.out
          replace hxd := hxd.below hb12
          replace hov := hov.below hb12
          replace hlv := hlv.below hb12
          go_wp2_with fail
          refine (HBX.out _ _ _ hd12).mono ?_
          rintro e w13 ⟨A9, c9, rfl, hb13⟩
          have hw13 := hw12.trans (hb13.mono hw12.size)
          have G13 := Lib.hid (box_step hb13 G12.out)
          replace gc := box_cells G13.out
          replace gf := box_frozen G13.out
          have X13 := Lib.hid (box_step hb13 X12.out)
          replace xc := box_cells X13.out
          replace xf := box_frozen X13.out
          replace hxd := hxd.below hb13
          replace hov := hov.below hb13
          replace hlv := hlv.below hb13
          clear hd12
          go_wp2_with fail
          refine (wakes_any _).mono ?_
          rintro e w14 ⟨rfl, hb14⟩
          have hw14 := hw13.trans (hb14.mono hw13.size)
          have G14 := Lib.hid (box_step hb14 G13.out)
          replace gc := box_cells G14.out
          replace gf := box_frozen G14.out
          have X14 := Lib.hid (box_step hb14 X13.out)
          replace xc := box_cells X14.out
          replace xf := box_frozen X14.out
          replace hxd := hxd.below hb14
          replace hov := hov.below hb14
          replace hlv := hlv.below hb14
          go_wp2
          go_ret
          exact ⟨rfl, hw14⟩
theorem Blocks_law (d : DDay) (u z : Value) (x y : Nat) (w : World) (hda : DayAt w u z d) (hx : x < 256) (hy : y < 65536) :
    Calls Try.prog 6 #[.agg #[.int .i64 d.law.piece, .int .i64 d.law.drive, .int .i64 d.law.spread, .int .i64 d.law.brk, .int .i64 d.law.on, .int .i64 d.law.off, .int .i64 d.law.least, .int .i64 d.law.pieces, u, z], .int .u8 (x : Int), .int .u16 (y : Int)] w (Gives w (.bool true)) := by
  cases hl : lightB d with
  | false => exact Blocks_dark d u z x y w hda hx hy hl
  | true =>
    by_cases hs : segN d.blocks = 0
    · exact Blocks_none d u z x y w hda hx hy hl hs
    · exact Blocks_main d u z x y w hda hx hy hl (by omega)
end Go.Proofs.Ytllobkhdeahgpaa
