import Derived.Test.YtllobkhdeahgpaaGreatZ9
set_option linter.unusedVariables false
set_option linter.unusedSimpArgs false
namespace Go.Proofs.YtllobkhdeahgpaaGreat
open Go Go.Proofs Go.RowKit

/-! ### Duties -/
/-- The first k duties. -/
def dutK (n k : Nat) : List (List Int) := ((List.range (k + 1)).drop 1).map fun x => natsI (bitsL n x)
theorem dutK_len (n k : Nat) : (dutK n k).length = k := by simp [dutK]
theorem dutK_succ (n k : Nat) : dutK n (k + 1) = dutK n k ++ [natsI (bitsL n (k + 1))] := by
  unfold dutK
  rw [List.range_succ (n := k + 1), List.drop_append_of_le_length (by simp), List.map_append]
  rfl
set_option maxRecDepth 100000 in
set_option maxHeartbeats 1600000 in
theorem Duties_any (d : DDay) (u z : Value) (w : World) (hda : DayAt w u z d) (hm : Mild d) (hsn : segN d.blocks ≤ 10) :
    Calls Tryz.prog 58 #[.agg #[.int .i64 d.law.piece, .int .i64 d.law.drive, .int .i64 d.law.spread, .int .i64 d.law.brk, .int .i64 d.law.on, .int .i64 d.law.off, .int .i64 d.law.least, .int .i64 d.law.pieces, u, z]] w (GivesRows w (dutK (segN d.blocks) (2 ^ segN d.blocks - 1))) := by
  obtain ⟨A1, c1, rfl, _, _⟩ := hda.blocks.form
  obtain ⟨A2, c2, rfl, _, _⟩ := hda.walk.form
  obtain ⟨i0, hi0, hz0, hz1, hz2⟩ := info_parts infoI
  obtain ⟨i1, hi1, hy0, hy1, hy2⟩ := info_parts infoR
  have hw0 : Below w.heap.size w (w.alloc (.cells #[.int .i64 d.law.piece, .int .i64 d.law.drive, .int .i64 d.law.spread, .int .i64 d.law.brk, .int .i64 d.law.on, .int .i64 d.law.off, .int .i64 d.law.least, .int .i64 d.law.pieces, .slice A1 d.blocks.length c1, .slice A2 d.walk.length c2] 27)) := (Below.refl _ _).alloc (Nat.le_refl _) _
  have G0 := Lib.hid (heap_alloc_new w (.cells #[.int .i64 d.law.piece, .int .i64 d.law.drive, .int .i64 d.law.spread, .int .i64 d.law.brk, .int .i64 d.law.on, .int .i64 d.law.off, .int .i64 d.law.least, .int .i64 d.law.pieces, .slice A1 d.blocks.length c1, .slice A2 d.walk.length c2] 27 (0, 0)))
  have Hda := Lib.hid hda
  clear hda
  have hp1 := Nat.two_pow_pos (segN d.blocks)
  have hp2 : 2 ^ segN d.blocks ≤ 1024 := Nat.pow_le_pow_right (n := 2) (by omega) hsn
  go_enter Tryz.func58, Tryz.ntmps58
  go_wp2_with fail
  refine (Segments_any d _ _ _ (Hda.out.below hw0) hm).mono ?_
  rintro e w1 ⟨rfl, hb1⟩
  have hw1 := hw0.trans (hb1.mono hw0.size)
  have G1 := Lib.hid (rd_box_step hb1 G0.out)
  generalize hN : segN d.blocks = N at *
  clear hN
  go_wp2_with fail
  have hW := Lib.hid (show wrap64 ((2 : Int) ^ N) = ((2 ^ N : Nat) : Int) by
    have e : ((2 : Int) ^ N) = ((2 ^ N : Nat) : Int) := by push_cast; rfl
    rw [e]
    generalize 2 ^ N = M at *
    unfold wrap64
    omega)
  go_loopw [3, 5] (fun v i wr => ∃ (k : Nat) (A : Option Addr) (c : Nat) (us : List Value), k + 1 ≤ 2 ^ N ∧ i = .int .i64 ((k : Int) + 1) ∧ v = .slice A k c ∧ Below w.heap.size w wr ∧ wr.heap[w.heap.size]? = some (.cells #[.int .i64 d.law.piece, .int .i64 d.law.drive, .int .i64 d.law.spread, .int .i64 d.law.brk, .int .i64 d.law.on, .int .i64 d.law.off, .int .i64 d.law.least, .int .i64 d.law.pieces, .slice A1 d.blocks.length c1, .slice A2 d.walk.length c2] 27 (0, 0)) ∧
    wr.ownsRow w.heap.size 28 1 v k us ∧ RowsOwn wr w.heap.size us (dutK N k)) (fun v i wr => 2 ^ N - (intOf i).toNat)
  case atStart => exact ⟨0, none, 0, [], by omega, rfl, rfl, hw1, G1.out, World.ownsRow_nil _ _ _ _, ⟨by simp [dutK], by intro j l h; simp [dutK] at h⟩⟩
  case round =>
    obtain ⟨k, A, c, us, hk, rfl, rfl, hb, hbx, hown0, hro⟩ := hrel
    obtain ⟨wo, rfl⟩ : ∃ wo : World, wo = wr := ⟨_, rfl⟩
    have Hbx := Lib.hid hbx
    have Hro := Lib.hid hro
    have Hown0 := Lib.hid hown0
    have hsz := hb.size
    clear hbx hro hown0
    by_cases hlt : k + 1 < 2 ^ N
    · have t1 : (k : Int) + 1 < wrap64 (2 ^ N) := by rw [hW.out]; omega
      go_wp2_with fail
      go_loopw [6, 7] (fun v j wr => ∃ (m : Nat) (A' : Option Addr) (c' : Nat), m ≤ N ∧ j = .int .i64 m ∧ v = .slice A' (bitsL m (k + 1)).length c' ∧ Below wo.heap.size wo wr ∧ wr.ownsRow wo.heap.size 3 1 v (bitsL m (k + 1)).length ((natsI (bitsL m (k + 1))).map (.int .i64))) (fun v j wr => N - (intOf j).toNat)
      case atStart => exact ⟨0, none, 0, by omega, rfl, rfl, Below.refl _ _, by simpa [natsI, bitsL] using World.ownsRow_nil wo wo.heap.size 3 1⟩
      case round =>
        obtain ⟨m, A', c', hm0, rfl, rfl, hb2, hown⟩ := hrel
        obtain ⟨wq, rfl⟩ : ∃ wq : World, wq = wr := ⟨_, rfl⟩
        have Hown := Lib.hid hown
        have hs2 := hb2.size
        have hle := bitsL_len m (k + 1)
        clear hown
        by_cases hlm : m < N
        · have k2 : (m : Int) < (N : Int) := by omega
          have Hl := Lib.hid (bitsL_succ m (k + 1))
          have hbit : ((((k : Int) + 1) / 2 ^ m).tmod 2 == 1) = (k + 1).testBit m := by have := set_bit (k + 1) m; push_cast at this; exact this
          generalize bitsL m (k + 1) = S at *
          cases h1 : (k + 1).testBit m with
          | true =>
            rw [h1] at Hl hbit
            clear h1
            go_wp2_with (at_builtin; go_loud (refine wpList_append_src _ rfl (.tmp 28) (.tmp 30) 28 rfl wo.heap.size 3 i0 _ 1 8 Tryz.underlying28 hi0 hz0 hz1 hz2 rfl (by omega) _ S.length _ rfl (Hown.out.alloc _) (some ⟨wq.heap.size, 0, none⟩) 1 1 [.int .i64 (m : Int)] rfl (src_new _ _ _ _ _ rfl) (by simp [Value.oneCell']) (by simp [maxLen]; omega) (by omega) (by simp; omega) ?_; intro v1 w1 hown1 hg1 hat1; have Hg1 := Lib.hid hg1; obtain ⟨AA1, cc1, rfl⟩ := own_form hown1; have Hown1 := Lib.hid hown1; clear hown1 hg1 hat1))
            go_roundw
            case rel =>
              refine ⟨m + 1, AA1, cc1, by omega, by go_num, ?_, (hb2.alloc hs2 _).grown Hg1.out (by simp; omega) fun q hq => (Hown.out.lt q hq).1, ?_⟩
              · rw [Hl.out]; simp
              · rw [Hl.out]
                have := Hown1.out
                simpa [natsI] using this
            case measure => simp [intOf]; omega
          | false =>
            rw [h1] at Hl hbit
            clear h1
            go_wp2_with fail
            go_roundw
            case rel => exact ⟨m + 1, A', c', by omega, by go_num, by rw [Hl.out]; simp, hb2, by rw [Hl.out]; simpa using Hown.out⟩
            case measure => simp [intOf]; omega
        · obtain rfl : m = N := by omega
          have hw2 := Hown.out
          have Hw2 := Lib.hid (own_mono hw2 hsz)
          have Hrow := Lib.hid (own_below Hown0.out hb2)
          have Hrr := Lib.hid (Hro.out.below hb2)
          have Hbq := Lib.hid (rd_box_step hb2 Hbx.out)
          have hwq := hb.trans (hb2.mono hb.size)
          have HS := Lib.hid (show natsI (bitsL m (k + 1)) = natsI (bitsL m (k + 1)) from rfl)
          have Hnl := Lib.hid (natsI_len (bitsL m (k + 1)))
          have Hsu := Lib.hid (dutK_succ m k)
          have k2 : ¬ (m : Int) < (m : Int) := by omega
          generalize hS : bitsL m (k + 1) = S at *
          clear hw2 hS
          go_wp2_with (at_builtin; go_loud (refine wpList_append_src _ rfl (.tmp 32) (.tmp 34) 25 rfl w.heap.size 28 i1 _ 1 24 Tryz.underlying25 hi1 hy0 hy1 hy2 rfl (by omega) _ k us rfl (Hrow.out.alloc _) (some ⟨wq.heap.size, 0, none⟩) 1 1 [.slice A' S.length c'] rfl (src_new wq [.slice A' S.length c'] 28 1 1 rfl) (by simp [Value.oneCell']) (by simp [maxLen]; omega) (by omega) (by simp; omega) ?_; intro v1 w1 hown1 hg1 hat1; have Hg1 := Lib.hid hg1; obtain ⟨AA1, cc1, rfl⟩ := own_form hown1; have Hown1 := Lib.hid hown1; clear hown1 hg1 hat1))
          go_roundw
          case rel =>
            have hg3 : (wq.alloc (.cells #[.slice A' S.length c'] 28)).grownBy w1 (Value.slice A k c).ownBlock := Hg1.out
            refine ⟨k + 1, AA1, cc1, us ++ [.slice A' S.length c'], by omega, by go_num, rfl, below_grown (hwq.alloc hwq.size _) hg3 (by have := hwq.size; simp; omega) (Hrow.out.alloc _) (Nat.le_refl _), own_grow Hrow.out Hbq.out (by decide) hg3, Hown1.out, ?_⟩
            rw [Hsu.out]
            have h1 : RowsOwn (wq.alloc (.cells #[.slice A' S.length c'] 28)) w.heap.size us (dutK m k) := Hrr.out.below ((Below.refl _ _).alloc (Nat.le_refl _) _)
            refine (h1.kept (Hrow.out.alloc _) (by decide) hg3).snoc ?_
            rw [Hnl.out]
            exact (Hw2.out.alloc _).kept hg3 (own_apart Hw2.out Hrow.out (by decide))
          case measure => simp [intOf]; omega
    · have t1 : ¬ (k : Int) + 1 < wrap64 (2 ^ N) := by rw [hW.out]; omega
      have e : 2 ^ N - 1 = k := by omega
      rw [e]
      have Hl := Lib.hid (dutK_len N k)
      go_wp2_with fail
      go_ret
      exact ⟨A, c, us, (by rw [Hl.out] : Ending.returned (.slice A k c) = Ending.returned (.slice A (dutK N k).length c)), by rw [Hl.out]; exact Hown0.out, Hro.out, hb⟩
end Go.Proofs.YtllobkhdeahgpaaGreat
