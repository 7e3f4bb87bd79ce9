import Derived.Test.YtllobkhdeahgpaaGreatZ1
set_option linter.unusedVariables false
set_option linter.unusedSimpArgs false
namespace Go.Proofs.YtllobkhdeahgpaaGreat
open Go Go.Proofs Go.RowKit

/-! ### Lows, Highs -/
def lowsL (bl : List (List Rel)) : List (List Int) := bl.map fun l => l.map Rel.lo
def highsL (bl : List (List Rel)) : List (List Int) := bl.map fun l => l.map Rel.hi
set_option maxRecDepth 100000 in
set_option maxHeartbeats 1600000 in
theorem Lows_any (d : DDay) (u z : Value) (w : World) (hda : DayAt w u z d) (hm : Mild d) :
    Calls Tryz.prog 66 #[.agg #[.int .i64 d.law.piece, .int .i64 d.law.drive, .int .i64 d.law.spread, .int .i64 d.law.brk, .int .i64 d.law.on, .int .i64 d.law.off, .int .i64 d.law.least, .int .i64 d.law.pieces, u, z]] w (GivesRows w (lowsL d.blocks)) := by
  obtain ⟨A1, c1, rfl, _, _⟩ := hda.blocks.form
  obtain ⟨A2, c2, rfl, _, _⟩ := hda.walk.form
  obtain ⟨i0, hi0, hz0, hz1, hz2⟩ := info_parts infoI
  obtain ⟨i1, hi1, hy0, hy1, hy2⟩ := info_parts infoR
  have hmb := hm.blocks
  have hw0 : Below w.heap.size w (w.alloc (.cells #[.int .i64 d.law.piece, .int .i64 d.law.drive, .int .i64 d.law.spread, .int .i64 d.law.brk, .int .i64 d.law.on, .int .i64 d.law.off, .int .i64 d.law.least, .int .i64 d.law.pieces, .slice A1 d.blocks.length c1, .slice A2 d.walk.length c2] 27)) := (Below.refl _ _).alloc (Nat.le_refl _) _
  have G0 := Lib.hid (heap_alloc_new w (.cells #[.int .i64 d.law.piece, .int .i64 d.law.drive, .int .i64 d.law.spread, .int .i64 d.law.brk, .int .i64 d.law.on, .int .i64 d.law.off, .int .i64 d.law.least, .int .i64 d.law.pieces, .slice A1 d.blocks.length c1, .slice A2 d.walk.length c2] 27 (0, 0)))
  have Hda := Lib.hid hda
  clear hda
  go_enter Tryz.func66, Tryz.ntmps66
  go_wp2
  go_loopw [3, 4] (fun v i wr => ∃ (k : Nat) (A : Option Addr) (c : Nat) (us : List Value), k ≤ d.blocks.length ∧ i = .int .i64 k ∧ v = .slice A k c ∧ Below w.heap.size w wr ∧ wr.heap[w.heap.size]? = some (.cells #[.int .i64 d.law.piece, .int .i64 d.law.drive, .int .i64 d.law.spread, .int .i64 d.law.brk, .int .i64 d.law.on, .int .i64 d.law.off, .int .i64 d.law.least, .int .i64 d.law.pieces, .slice A1 d.blocks.length c1, .slice A2 d.walk.length c2] 27 (0, 0)) ∧
    wr.ownsRow w.heap.size 28 1 v k us ∧ RowsOwn wr w.heap.size us ((d.blocks.take k).map fun l => l.map Rel.lo)) (fun v i wr => d.blocks.length - (intOf i).toNat)
  case atStart => exact ⟨0, none, 0, [], by omega, rfl, rfl, hw0, G0.out, World.ownsRow_nil _ _ _ _, ⟨by simp, by intro j l h; simp at h⟩⟩
  case round =>
    obtain ⟨k, A, c, us, hk, rfl, rfl, hb, hbx, hown0, hro⟩ := hrel
    obtain ⟨wo, rfl⟩ : ∃ wo : World, wo = wr := ⟨_, rfl⟩
    have Hbx := Lib.hid hbx
    have Hro := Lib.hid hro
    have Hown0 := Lib.hid hown0
    have gc := box_cells Hbx.out
    have gf := box_frozen Hbx.out
    have hsz := hb.size
    clear hbx hro hown0
    by_cases hlt : k < d.blocks.length
    · obtain ⟨b, o, l, u, rfl, hl, c0, hr, hblt⟩ := (Hda.out.blocks.below hb).at_ hlt
      obtain ⟨A3, c3, rfl, hc3, hm3⟩ := hr.form
      have hll := hm.block k l hl
      have Hl := Lib.hid hl
      have C0 := Lib.hid c0
      have hkI : (k : Int) < (d.blocks.length : Int) := by omega
      clear hl
      go_wp2
      go_loopw [5, 6] (fun v j wr => ∃ (m : Nat) (A' : Option Addr) (c' : Nat), m ≤ l.length ∧ j = .int .i64 m ∧ v = .slice A' m c' ∧ Below wo.heap.size wo wr ∧ wr.ownsRow wo.heap.size 3 1 v m (((l.take m).map Rel.lo).map (.int .i64))) (fun v j wr => l.length - (intOf j).toNat)
      case atStart => exact ⟨0, none, 0, by omega, rfl, rfl, Below.refl _ _, World.ownsRow_nil _ _ _ _⟩
      case round =>
        obtain ⟨m, A', c', hm0, rfl, rfl, hb2, hown⟩ := hrel
        obtain ⟨wq, rfl⟩ : ∃ wq : World, wq = wr := ⟨_, rfl⟩
        have Hown := Lib.hid hown
        have q0 := cell_below hb2 C0.out
        have hs2 := hb2.size
        have Hbq := Lib.hid (rd_box_step hb2 Hbx.out)
        replace gc := box_cells Hbq.out
        replace gf := box_frozen Hbq.out
        have hwq := hb.trans (hb2.mono hb.size)
        have hrq := hr.below hb2
        clear hown
        by_cases hlm : m < l.length
        · obtain ⟨b3, o3, r, rfl, hr3, r0, r1, r2, hbl⟩ := hrq.at_ hlm
          have Hr := Lib.hid hr3
          have k2 : (m : Int) < (l.length : Int) := by omega
          clear hr3
          have Hlo := Lib.hid (Lo_any d _ _ k m wq (Hda.out.below hwq) ⟨hlt, by rw [Hl.out]; exact hlm⟩)
          have hrl : loT d.blocks k m = r.lo := by unfold loT relAt; rw [Hl.out, Option.getD_some, Hr.out]; rfl
          rw [hrl] at Hlo
          clear hrl
          go_wp2_with (first
            | (go_at_call 74; refine Hlo.out.mono ?_; rintro e w1 ⟨rfl, hb1⟩; have hs1 := hb1.size; have Hown2 := Lib.hid (own_below Hown.out hb1))
            | (at_builtin; go_loud (refine wpList_append_src _ rfl (.tmp 24) (.tmp 29) 28 rfl wo.heap.size 3 i0 _ 1 8 Tryz.underlying28 hi0 hz0 hz1 hz2 rfl (by omega) _ m _ rfl (Hown2.out.alloc _) (some ⟨w1.heap.size, 0, none⟩) 1 1 [.int .i64 r.lo] rfl (src_new _ _ _ _ _ rfl) (by simp [Value.oneCell']) (by simp [maxLen]; omega) (by omega) (by simp; omega) ?_; intro v1 w2 hown1 hg1 hat1; have Hg1 := Lib.hid hg1; obtain ⟨AA1, cc1, rfl⟩ := own_form hown1; have Hown1 := Lib.hid hown1; clear hown1 hg1 hat1)))
          have hb3 := hb2.trans (hb1.mono hb2.size)
          go_roundw
          case rel =>
            refine ⟨m + 1, AA1, cc1, by omega, by go_num, rfl, (hb3.alloc (by have := hb3.size; omega) _).grown Hg1.out (by have := hb3.size; simp; omega) fun q hq => (Hown2.out.lt q hq).1, ?_⟩
            rw [List.take_add_one, Hr.out, Option.toList_some, List.map_append, List.map_append]
            exact Hown1.out
          case measure => simp [intOf]; omega
        · obtain rfl : m = l.length := by omega
          have hw2 := Hown.out
          rw [List.take_length] at hw2
          have Hw2 := Lib.hid (own_mono hw2 hsz)
          have Hrow := Lib.hid (own_below Hown0.out hb2)
          have Hrr := Lib.hid (Hro.out.below hb2)
          have k2 : ¬ (l.length : Int) < (l.length : Int) := by omega
          clear hw2
          go_wp2_with (at_builtin; go_loud (refine wpList_append_src _ rfl (.tmp 31) (.tmp 33) 25 rfl w.heap.size 28 i1 _ 1 24 Tryz.underlying25 hi1 hy0 hy1 hy2 rfl (by omega) _ k us rfl (Hrow.out.alloc _) (some ⟨wq.heap.size, 0, none⟩) 1 1 [.slice A' l.length c'] rfl (src_new wq [.slice A' l.length c'] 28 1 1 rfl) (by simp [Value.oneCell']) (by simp [maxLen]; omega) (by omega) (by simp; omega) ?_; intro v1 w1 hown1 hg1 hat1; have Hg1 := Lib.hid hg1; obtain ⟨AA1, cc1, rfl⟩ := own_form hown1; have Hown1 := Lib.hid hown1; clear hown1 hg1 hat1))
          go_roundw
          case rel =>
            have hg3 : (wq.alloc (.cells #[.slice A' l.length c'] 28)).grownBy w1 (Value.slice A k c).ownBlock := Hg1.out
            refine ⟨k + 1, AA1, cc1, us ++ [.slice A' l.length c'], by omega, by go_num, rfl, below_grown (hwq.alloc hwq.size _) hg3 (by have := hwq.size; simp; omega) (Hrow.out.alloc _) (Nat.le_refl _), own_grow Hrow.out Hbq.out (by decide) hg3, Hown1.out, ?_⟩
            rw [List.take_add_one, Hl.out, Option.toList_some, List.map_append]
            have h1 : RowsOwn (wq.alloc (.cells #[.slice A' l.length c'] 28)) w.heap.size us ((d.blocks.take k).map fun l => l.map Rel.lo) := Hrr.out.below ((Below.refl _ _).alloc (Nat.le_refl _) _)
            refine (h1.kept (Hrow.out.alloc _) (by decide) hg3).snoc ?_
            rw [List.length_map]
            exact (Hw2.out.alloc _).kept hg3 (own_apart Hw2.out Hrow.out (by decide))
          case measure => simp [intOf]; omega
    · obtain rfl : k = d.blocks.length := by omega
      have hkI : ¬ (d.blocks.length : Int) < (d.blocks.length : Int) := by omega
      have hro := Hro.out
      rw [List.take_length] at hro
      have e : (lowsL d.blocks).length = d.blocks.length := by simp [lowsL]
      have HE := Lib.hid e
      clear e
      go_wp2
      go_ret
      exact ⟨A, c, us, (by rw [HE.out] : Ending.returned (.slice A d.blocks.length c) = Ending.returned (.slice A (lowsL d.blocks).length c)), by rw [HE.out]; exact Hown0.out, hro, hb⟩
set_option maxRecDepth 100000 in
set_option maxHeartbeats 1600000 in
theorem Highs_any (d : DDay) (u z : Value) (w : World) (hda : DayAt w u z d) (hm : Mild d) :
    Calls Tryz.prog 67 #[.agg #[.int .i64 d.law.piece, .int .i64 d.law.drive, .int .i64 d.law.spread, .int .i64 d.law.brk, .int .i64 d.law.on, .int .i64 d.law.off, .int .i64 d.law.least, .int .i64 d.law.pieces, u, z]] w (GivesRows w (highsL d.blocks)) := by
  obtain ⟨A1, c1, rfl, _, _⟩ := hda.blocks.form
  obtain ⟨A2, c2, rfl, _, _⟩ := hda.walk.form
  obtain ⟨i0, hi0, hz0, hz1, hz2⟩ := info_parts infoI
  obtain ⟨i1, hi1, hy0, hy1, hy2⟩ := info_parts infoR
  have hmb := hm.blocks
  have hw0 : Below w.heap.size w (w.alloc (.cells #[.int .i64 d.law.piece, .int .i64 d.law.drive, .int .i64 d.law.spread, .int .i64 d.law.brk, .int .i64 d.law.on, .int .i64 d.law.off, .int .i64 d.law.least, .int .i64 d.law.pieces, .slice A1 d.blocks.length c1, .slice A2 d.walk.length c2] 27)) := (Below.refl _ _).alloc (Nat.le_refl _) _
  have G0 := Lib.hid (heap_alloc_new w (.cells #[.int .i64 d.law.piece, .int .i64 d.law.drive, .int .i64 d.law.spread, .int .i64 d.law.brk, .int .i64 d.law.on, .int .i64 d.law.off, .int .i64 d.law.least, .int .i64 d.law.pieces, .slice A1 d.blocks.length c1, .slice A2 d.walk.length c2] 27 (0, 0)))
  have Hda := Lib.hid hda
  clear hda
  go_enter Tryz.func67, Tryz.ntmps67
  go_wp2
  go_loopw [3, 4] (fun v i wr => ∃ (k : Nat) (A : Option Addr) (c : Nat) (us : List Value), k ≤ d.blocks.length ∧ i = .int .i64 k ∧ v = .slice A k c ∧ Below w.heap.size w wr ∧ wr.heap[w.heap.size]? = some (.cells #[.int .i64 d.law.piece, .int .i64 d.law.drive, .int .i64 d.law.spread, .int .i64 d.law.brk, .int .i64 d.law.on, .int .i64 d.law.off, .int .i64 d.law.least, .int .i64 d.law.pieces, .slice A1 d.blocks.length c1, .slice A2 d.walk.length c2] 27 (0, 0)) ∧
    wr.ownsRow w.heap.size 28 1 v k us ∧ RowsOwn wr w.heap.size us ((d.blocks.take k).map fun l => l.map Rel.hi)) (fun v i wr => d.blocks.length - (intOf i).toNat)
  case atStart => exact ⟨0, none, 0, [], by omega, rfl, rfl, hw0, G0.out, World.ownsRow_nil _ _ _ _, ⟨by simp, by intro j l h; simp at h⟩⟩
  case round =>
    obtain ⟨k, A, c, us, hk, rfl, rfl, hb, hbx, hown0, hro⟩ := hrel
    obtain ⟨wo, rfl⟩ : ∃ wo : World, wo = wr := ⟨_, rfl⟩
    have Hbx := Lib.hid hbx
    have Hro := Lib.hid hro
    have Hown0 := Lib.hid hown0
    have gc := box_cells Hbx.out
    have gf := box_frozen Hbx.out
    have hsz := hb.size
    clear hbx hro hown0
    by_cases hlt : k < d.blocks.length
    · obtain ⟨b, o, l, u, rfl, hl, c0, hr, hblt⟩ := (Hda.out.blocks.below hb).at_ hlt
      obtain ⟨A3, c3, rfl, hc3, hm3⟩ := hr.form
      have hll := hm.block k l hl
      have Hl := Lib.hid hl
      have C0 := Lib.hid c0
      have hkI : (k : Int) < (d.blocks.length : Int) := by omega
      clear hl
      go_wp2
      go_loopw [5, 6] (fun v j wr => ∃ (m : Nat) (A' : Option Addr) (c' : Nat), m ≤ l.length ∧ j = .int .i64 m ∧ v = .slice A' m c' ∧ Below wo.heap.size wo wr ∧ wr.ownsRow wo.heap.size 3 1 v m (((l.take m).map Rel.hi).map (.int .i64))) (fun v j wr => l.length - (intOf j).toNat)
      case atStart => exact ⟨0, none, 0, by omega, rfl, rfl, Below.refl _ _, World.ownsRow_nil _ _ _ _⟩
      case round =>
        obtain ⟨m, A', c', hm0, rfl, rfl, hb2, hown⟩ := hrel
        obtain ⟨wq, rfl⟩ : ∃ wq : World, wq = wr := ⟨_, rfl⟩
        have Hown := Lib.hid hown
        have q0 := cell_below hb2 C0.out
        have hs2 := hb2.size
        have Hbq := Lib.hid (rd_box_step hb2 Hbx.out)
        replace gc := box_cells Hbq.out
        replace gf := box_frozen Hbq.out
        have hwq := hb.trans (hb2.mono hb.size)
        have hrq := hr.below hb2
        clear hown
        by_cases hlm : m < l.length
        · obtain ⟨b3, o3, r, rfl, hr3, r0, r1, r2, hbl⟩ := hrq.at_ hlm
          have Hr := Lib.hid hr3
          have k2 : (m : Int) < (l.length : Int) := by omega
          clear hr3
          go_wp2_with (at_builtin; go_loud (refine wpList_append_src _ rfl (.tmp 24) (.tmp 35) 28 rfl wo.heap.size 3 i0 _ 1 8 Tryz.underlying28 hi0 hz0 hz1 hz2 rfl (by omega) _ m _ rfl (Hown.out.alloc _) (some ⟨wq.heap.size, 0, none⟩) 1 1 [.int .i64 r.hi] rfl (src_new _ _ _ _ _ rfl) (by simp [Value.oneCell']) (by simp [maxLen]; omega) (by omega) (by simp; omega) ?_; intro v1 w2 hown1 hg1 hat1; have Hg1 := Lib.hid hg1; obtain ⟨AA1, cc1, rfl⟩ := own_form hown1; have Hown1 := Lib.hid hown1; clear hown1 hg1 hat1))
          have hb3 := hb2
          go_roundw
          case rel =>
            refine ⟨m + 1, AA1, cc1, by omega, by go_num, rfl, (hb3.alloc (by have := hb3.size; omega) _).grown Hg1.out (by have := hb3.size; simp; omega) fun q hq => (Hown.out.lt q hq).1, ?_⟩
            rw [List.take_add_one, Hr.out, Option.toList_some, List.map_append, List.map_append]
            exact Hown1.out
          case measure => simp [intOf]; omega
        · obtain rfl : m = l.length := by omega
          have hw2 := Hown.out
          rw [List.take_length] at hw2
          have Hw2 := Lib.hid (own_mono hw2 hsz)
          have Hrow := Lib.hid (own_below Hown0.out hb2)
          have Hrr := Lib.hid (Hro.out.below hb2)
          have k2 : ¬ (l.length : Int) < (l.length : Int) := by omega
          clear hw2
          go_wp2_with (at_builtin; go_loud (refine wpList_append_src _ rfl (.tmp 37) (.tmp 39) 25 rfl w.heap.size 28 i1 _ 1 24 Tryz.underlying25 hi1 hy0 hy1 hy2 rfl (by omega) _ k us rfl (Hrow.out.alloc _) (some ⟨wq.heap.size, 0, none⟩) 1 1 [.slice A' l.length c'] rfl (src_new wq [.slice A' l.length c'] 28 1 1 rfl) (by simp [Value.oneCell']) (by simp [maxLen]; omega) (by omega) (by simp; omega) ?_; intro v1 w1 hown1 hg1 hat1; have Hg1 := Lib.hid hg1; obtain ⟨AA1, cc1, rfl⟩ := own_form hown1; have Hown1 := Lib.hid hown1; clear hown1 hg1 hat1))
          go_roundw
          case rel =>
            have hg3 : (wq.alloc (.cells #[.slice A' l.length c'] 28)).grownBy w1 (Value.slice A k c).ownBlock := Hg1.out
            refine ⟨k + 1, AA1, cc1, us ++ [.slice A' l.length c'], by omega, by go_num, rfl, below_grown (hwq.alloc hwq.size _) hg3 (by have := hwq.size; simp; omega) (Hrow.out.alloc _) (Nat.le_refl _), own_grow Hrow.out Hbq.out (by decide) hg3, Hown1.out, ?_⟩
            rw [List.take_add_one, Hl.out, Option.toList_some, List.map_append]
            have h1 : RowsOwn (wq.alloc (.cells #[.slice A' l.length c'] 28)) w.heap.size us ((d.blocks.take k).map fun l => l.map Rel.hi) := Hrr.out.below ((Below.refl _ _).alloc (Nat.le_refl _) _)
            refine (h1.kept (Hrow.out.alloc _) (by decide) hg3).snoc ?_
            rw [List.length_map]
            exact (Hw2.out.alloc _).kept hg3 (own_apart Hw2.out Hrow.out (by decide))
          case measure => simp [intOf]; omega
    · obtain rfl : k = d.blocks.length := by omega
      have hkI : ¬ (d.blocks.length : Int) < (d.blocks.length : Int) := by omega
      have hro := Hro.out
      rw [List.take_length] at hro
      have e : (highsL d.blocks).length = d.blocks.length := by simp [highsL]
      have HE := Lib.hid e
      clear e
      go_wp2
      go_ret
      exact ⟨A, c, us, (by rw [HE.out] : Ending.returned (.slice A d.blocks.length c) = Ending.returned (.slice A (highsL d.blocks).length c)), by rw [HE.out]; exact Hown0.out, hro, hb⟩
end Go.Proofs.YtllobkhdeahgpaaGreat
