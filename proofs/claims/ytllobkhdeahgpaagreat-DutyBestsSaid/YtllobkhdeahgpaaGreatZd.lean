import Derived.Test.YtllobkhdeahgpaaGreatZb
import Derived.Test.YtllobkhdeahgpaaGreatZc
set_option linter.unusedVariables false
set_option linter.unusedSimpArgs false
namespace Go.Proofs.YtllobkhdeahgpaaGreat
open Go Go.Proofs Go.RowKit

/-! ### LegalDuties -/
/-- The legal duties among the first k. -/
def legK (d : DDay) (k : Nat) : List (List Nat) := (((List.range (k + 1)).drop 1).map (bitsL (segN d.blocks))).filter (legalL d)
theorem legK_succ (d : DDay) (k : Nat) : legK d (k + 1) = legK d k ++ if legalL d (bitsL (segN d.blocks) (k + 1)) then [bitsL (segN d.blocks) (k + 1)] else [] := by
  unfold legK
  rw [List.range_succ (n := k + 1), List.drop_append_of_le_length (by simp), List.map_append, List.filter_append]
  congr 1
  show List.filter (legalL d) [bitsL (segN d.blocks) (k + 1)] = _
  simp only [List.filter_cons, List.filter_nil]
theorem legK_all (d : DDay) : legK d (2 ^ segN d.blocks - 1) = legalDs d := by
  unfold legK legalDs
  rw [Nat.sub_add_cancel (Nat.two_pow_pos _)]
theorem legK_le (d : DDay) (k : Nat) : (legK d k).length ≤ k := by
  have h := List.length_filter_le (legalL d) (((List.range (k + 1)).drop 1).map (bitsL (segN d.blocks)))
  simpa [legK] using h
theorem dutK_get {n k j : Nat} (h : j < k) : (dutK n k)[j]? = some (natsI (bitsL n (j + 1))) := by
  unfold dutK
  rw [List.getElem?_map, List.getElem?_drop, List.getElem?_range (by omega), Nat.add_comm 1 j]
  rfl
theorem legalDs_len {d : DDay} (h : segN d.blocks ≤ 10) : (legalDs d).length ≤ 1024 := by
  have := legK_le d (2 ^ segN d.blocks - 1)
  rw [legK_all] at this
  have h2 : 2 ^ segN d.blocks ≤ 1024 := Nat.pow_le_pow_right (n := 2) (by omega) h
  omega
set_option maxRecDepth 100000 in
set_option maxHeartbeats 3200000 in
theorem LegalDuties_any (d : DDay) (u z : Value) (w : World) (hda : DayAt w u z d) (hd : DayOk d) :
    Calls Tryz.prog 18 #[.agg #[.int .i64 d.law.piece, .int .i64 d.law.drive, .int .i64 d.law.spread, .int .i64 d.law.brk, .int .i64 d.law.on, .int .i64 d.law.off, .int .i64 d.law.least, .int .i64 d.law.pieces, u, z]] w (GivesRows w ((legalDs d).map natsI)) := by
  have hm := day_mild hd
  have hsn := hd.segs
  obtain ⟨A1, c1, rfl, _, _⟩ := hda.blocks.form
  obtain ⟨A2, c2, rfl, _, _⟩ := hda.walk.form
  obtain ⟨i1, hi1, hy0, hy1, hy2⟩ := info_parts infoR
  have hw0 : Below w.heap.size w (w.alloc (.cells #[.int .i64 d.law.piece, .int .i64 d.law.drive, .int .i64 d.law.spread, .int .i64 d.law.brk, .int .i64 d.law.on, .int .i64 d.law.off, .int .i64 d.law.least, .int .i64 d.law.pieces, .slice A1 d.blocks.length c1, .slice A2 d.walk.length c2] 27)) := (Below.refl _ _).alloc (Nat.le_refl _) _
  have G0 := Lib.hid (heap_alloc_new w (.cells #[.int .i64 d.law.piece, .int .i64 d.law.drive, .int .i64 d.law.spread, .int .i64 d.law.brk, .int .i64 d.law.on, .int .i64 d.law.off, .int .i64 d.law.least, .int .i64 d.law.pieces, .slice A1 d.blocks.length c1, .slice A2 d.walk.length c2] 27 (0, 0)))
  have Hda := Lib.hid hda
  have Hd := Lib.hid hd
  clear hda hd
  have hp1 := Nat.two_pow_pos (segN d.blocks)
  have hp2 : 2 ^ segN d.blocks ≤ 1024 := Nat.pow_le_pow_right (n := 2) (by omega) hsn
  go_enter Tryz.func18, Tryz.ntmps18
  go_wp2_with fail
  refine (Duties_any d _ _ _ (Hda.out.below hw0) hm hsn).mono ?_
  rintro e w1 ⟨A3, c3, us3, rfl, ho3, hr3, hb1⟩
  have hw1 := hw0.trans (hb1.mono hw0.size)
  have G1 := Lib.hid (rd_box_step hb1 G0.out)
  have hRA := rows_of_own ho3 hr3
  have hs1 := hw1.size
  have Hr3 := Lib.hid hr3
  have Hcell := Lib.hid (show ∀ k u, us3[k]? = some u → k < (dutK (segN d.blocks) (2 ^ segN d.blocks - 1)).length → ∃ g, A3 = some ⟨g, 0, none⟩ ∧ w1.cell? ⟨g, k, none⟩ = some u from by
    intro k u hu hk
    rcases ho3.2 with ⟨e, h0⟩ | ⟨g, cap, cur, e, _, hg, hc, hmm, hs, ht⟩
    · omega
    · cases e
      exact ⟨g, rfl, by rw [ho3.cellAt k (by omega), hu]⟩)
  have HK := Lib.hid (dutK_len (segN d.blocks) (2 ^ segN d.blocks - 1))
  rw [HK.out] at Hcell ⊢
  clear ho3 hr3 hRA
  go_wp2_with fail
  go_loopw [3, 5] (fun v i wr => ∃ (k : Nat) (A : Option Addr) (c : Nat) (us : List Value), k ≤ 2 ^ segN d.blocks - 1 ∧ i = .int .i64 k ∧ v = .slice A (legK d k).length c ∧ Below w1.heap.size w1 wr ∧
    wr.ownsRow w1.heap.size 28 1 v (legK d k).length us ∧ RowsOwn wr w.heap.size us ((legK d k).map natsI)) (fun v i wr => 2 ^ segN d.blocks - 1 - (intOf i).toNat)
  case atStart => exact ⟨0, none, 0, [], by omega, rfl, rfl, Below.refl _ _, World.ownsRow_nil _ _ _ _, ⟨by simp [legK], by intro j l h; simp [legK] at h⟩⟩
  case round =>
    obtain ⟨k, A, c, us, hk, rfl, rfl, hbr, hown0, hro⟩ := hrel
    obtain ⟨wo, rfl⟩ : ∃ wo : World, wo = wr := ⟨_, rfl⟩
    have hwo := hw1.trans (hbr.mono hs1)
    have Go := Lib.hid (rd_box_step hbr G1.out)
    have gc := box_cells Go.out
    have gf := box_frozen Go.out
    have Hro := Lib.hid hro
    have Hown0 := Lib.hid hown0
    clear hro hown0
    by_cases hlt : k < 2 ^ segN d.blocks - 1
    · obtain ⟨u, hu, hou⟩ := Hr3.out.2 k _ (dutK_get hlt)
      obtain ⟨g, rfl, cu⟩ := Hcell.out k u hu hlt
      have hnu := nums_of_own (K := .i64) hou
      obtain ⟨AU, cU, rfl, hcU, hmU⟩ := hnu.form
      have Hou := Lib.hid hou
      have Hnu := Lib.hid hnu
      have Cu := Lib.hid cu
      have hq1 : (k : Int) < ((2 ^ segN d.blocks - 1 : Nat) : Int) := by omega
      have Hkb : Hid (k + 1 < 2 ^ segN d.blocks) := Lib.hid (by omega)
      have Hdu := Lib.hid (show IsDuty d (bitsL (segN d.blocks) (k + 1)) from ⟨bitsL_asc _ _, fun i hi => (mem_bitsL.1 hi).1, fun e => by have := mask_bitsL Hkb.out; rw [e] at this; simp [maskL] at this⟩)
      have Hls := Lib.hid (legK_succ d k)
      have hle := legK_le d k
      have cz := cell_below hbr Cu.out
      clear hou hnu cu hu
      go_wp2_with fail
      refine wp_region_noPanic ?_
      refine wp_region_ph [([0, 1, 2, 3, 4], [5])] (fun _ => true) (fun w' => Below wo.heap.size wo w') (by kernel_rfl) (by kernel_rfl) (fun _ _ _ _ _ h => h) ?_
      have hb1q : Below wo.heap.size wo wo.drew := (Below.refl _ _).drew
      have HS1q := Lib.hid hb1q
      obtain ⟨w1q, hwe1q⟩ : ∃ W, W = wo.drew := ⟨_, rfl⟩
      rw [← hwe1q] at hb1q HS1q ⊢
      clear hwe1q
      have hw1q := hwo.trans (hb1q.mono hwo.size)
      have G1q := Lib.hid (box_step hb1q Go.out)
      replace gc := box_cells G1q.out
      replace gf := box_frozen G1q.out
      refine wpPh_cons HS1q.out (fun hne => ?_)
      have n0 := fun x : Meets (fun w' => Below wo.heap.size wo w') => cell_below x.property (box_cells Go.out 0)
      have n1 := fun x : Meets (fun w' => Below wo.heap.size wo w') => cell_below x.property (box_cells Go.out 1)
      have n2 := fun x : Meets (fun w' => Below wo.heap.size wo w') => cell_below x.property (box_cells Go.out 2)
      have n3 := fun x : Meets (fun w' => Below wo.heap.size wo w') => cell_below x.property (box_cells Go.out 3)
      have n4 := fun x : Meets (fun w' => Below wo.heap.size wo w') => cell_below x.property (box_cells Go.out 4)
      have n5 := fun x : Meets (fun w' => Below wo.heap.size wo w') => cell_below x.property (box_cells Go.out 5)
      have n6 := fun x : Meets (fun w' => Below wo.heap.size wo w') => cell_below x.property (box_cells Go.out 6)
      have n7 := fun x : Meets (fun w' => Below wo.heap.size wo w') => cell_below x.property (box_cells Go.out 7)
      have n8 := fun x : Meets (fun w' => Below wo.heap.size wo w') => cell_below x.property (box_cells Go.out 8)
      have n9 := fun x : Meets (fun w' => Below wo.heap.size wo w') => cell_below x.property (box_cells Go.out 9)
      have n10 := fun x : Meets (fun w' => Below wo.heap.size wo w') => cell_below x.property (cz)
      simp only [pick, pickN, List.filterMap_cons, List.filterMap_nil, List.getElem?_cons_zero, List.getElem?_cons_succ, Option.map_some]
      repeat (change wpQuiet _ _ _ _ (_ :: _) _; go_big_quiet_step (fail))
      refine wpQuiet_nil ?_
      clear n0 n1 n2 n3 n4 n5 n6 n7 n8 n9 n10 hne
      refine wpSeqK_step (fun K hK => ?_)
      go_simp
      refine (Legal_ref d _ _ _ (bitsL (segN d.blocks) (k + 1)) _ (Hda.out.below hw1q) Hd.out (Hnu.out.below (hbr.trans (HS1q.out.mono hbr.size))) Hdu.out).mono ?_
      rintro e w2q ⟨rfl, hb2q⟩
      have HS2q := Lib.hid (HS1q.out.trans (hb2q.mono HS1q.out.size))
      have hw2q := hw1q.trans (hb2q.mono hw1q.size)
      have G2q := Lib.hid (box_step hb2q G1q.out)
      replace gc := box_cells G2q.out
      replace gf := box_frozen G2q.out
      refine hK.out _ _ (fun _ => HS2q.out) ?_
      clear hK K
      refine wpSeqK_nil ?_
      refine wpPh_nil ?_
      refine NoPanic.normal ?_
      have hbz := HS2q.out
      have Hbz := Lib.hid hbz
      have cz2 := cell_below hbz cz
      have Hrow := Lib.hid (own_below Hown0.out hbz)
      have Hrr := Lib.hid (Hro.out.below hbz)
      have Hou2 := Lib.hid (own_mono (own_below Hou.out (hbr.trans (hbz.mono hbr.size))) hw0.size)
      have hwq := hw2q
      have h1q := hbr.trans (hbz.mono hbr.size)
      have hsq := h1q.size
      generalize hLn : (natsI (bitsL (segN d.blocks) (k + 1))).length = n at *
      have HLn := Lib.hid hLn
      clear hLn hbz
      cases hL : legalL d (bitsL (segN d.blocks) (k + 1)) with
      | true =>
        have Hls1 := Lib.hid (show legK d (k + 1) = legK d k ++ [bitsL (segN d.blocks) (k + 1)] by rw [Hls.out, hL]; rfl)
        clear hL
        go_wp2_with (at_builtin; go_loud (refine wpList_append_src _ rfl (.tmp 20) (.tmp 25) 25 rfl w1.heap.size 28 i1 _ 1 24 Tryz.underlying25 hi1 hy0 hy1 hy2 rfl (by omega) _ (legK d k).length us rfl (Hrow.out.alloc _) (some ⟨w2q.heap.size, 0, none⟩) 1 1 [.slice AU n cU] rfl (src_new w2q [.slice AU n cU] 28 1 1 rfl) (by simp [Value.oneCell']) (by simp [maxLen]; omega) (by omega) (by simp; omega) ?_; intro v1 w2 hown1 hg1 hat1; have Hg1 := Lib.hid hg1; obtain ⟨AA1, cc1, rfl⟩ := own_form hown1; have Hown1 := Lib.hid hown1; clear hown1 hg1 hat1))
        go_roundw
        case rel =>
          have hg3 : (w2q.alloc (.cells #[.slice AU n cU] 28)).grownBy w2 (Value.slice A (legK d k).length c).ownBlock := Hg1.out
          refine ⟨k + 1, AA1, cc1, us ++ [.slice AU n cU], by omega, by go_num, by rw [Hls1.out]; simp, below_grown (h1q.alloc hsq _) hg3 (by simp; omega) (Hrow.out.alloc _) (Nat.le_refl _), by rw [Hls1.out]; simpa using Hown1.out, ?_⟩
          rw [Hls1.out, List.map_append]
          have h1 : RowsOwn (w2q.alloc (.cells #[.slice AU n cU] 28)) w.heap.size us ((legK d k).map natsI) := Hrr.out.below ((Below.refl _ _).alloc (Nat.le_refl _) _)
          refine (h1.kept (Hrow.out.alloc _) (by decide) hg3).snoc ?_
          rw [HLn.out]
          exact (Hou2.out.alloc _).kept hg3 (own_apart Hou2.out Hrow.out (by decide))
        case measure => simp [intOf]; omega
      | false =>
        have Hls1 := Lib.hid (show legK d (k + 1) = legK d k by rw [Hls.out, hL]; simp)
        clear hL
        go_wp2_with fail
        go_roundw
        case rel => exact ⟨k + 1, A, c, us, by omega, by go_num, by rw [Hls1.out], h1q, by rw [Hls1.out]; exact Hrow.out, by rw [Hls1.out]; exact Hrr.out⟩
        case measure => simp [intOf]; omega
    · obtain rfl : k = 2 ^ segN d.blocks - 1 := by omega
      have Hl := Lib.hid (legK_all d)
      have Hln := Lib.hid (show ((legalDs d).map natsI).length = (legalDs d).length by simp)
      rw [Hl.out] at Hown0 Hro ⊢
      have t1 : ¬ ((2 ^ segN d.blocks - 1 : Nat) : Int) < ((2 ^ segN d.blocks - 1 : Nat) : Int) := by omega
      go_wp2_with fail
      go_ret
      exact ⟨A, c, us, (by rw [Hln.out] : Ending.returned (.slice A (legalDs d).length c) = Ending.returned (.slice A ((legalDs d).map natsI).length c)), by rw [Hln.out]; exact own_mono Hown0.out hs1, Hro.out, hwo⟩
end Go.Proofs.YtllobkhdeahgpaaGreat
