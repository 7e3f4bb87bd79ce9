import Derived.Test.YtobeffjdfhkjeaaY
set_option linter.unusedVariables false
set_option linter.unusedSimpArgs false
namespace Go.Proofs.Ytobeffjdfhkjeaa
open Go Go.Proofs Go.RowKit

theorem field95 (a b c d e : Value) (x : Int) (w : World) : (Instr.field 95 (.agg #[a, b, c, d, e, .int .i64 x]) 2).run Try.prog w = .ok (.int .i64 x) w := by kernel_rfl

set_option maxRecDepth 100000 in
set_option maxHeartbeats 3200000 in
theorem Needed_ok (n coins : Int) (v : Value) (ss : List Strat) (w : World) (hv : StrataAt w v ss) (hf : faultI n ss = 0) (hc1 : inB coins 1 10000000 = true) :
    Calls Try.prog 38 #[.agg #[.int .i64 n, v], .int .i64 coins] w (GivesInts0 w (needL coins ss)) := by
  have hb0 : Below w.heap.size w ((w.alloc (.cells #[.int .i64 n, v] 33)).alloc (.cells #[.int .i64 coins] 3)) := ((Below.refl _ _).alloc (Nat.le_refl _) _).alloc (by simp) _
  obtain ⟨A, c, rfl, hc, hm⟩ := hv.form
  obtain ⟨i0, hi0, hz0, hz1, hz2⟩ := info_parts info3
  have hf0 : (faultI n ss != 0) = false := by simp [hf]
  obtain ⟨hs8, hn1, hn5, hval⟩ := fault_zero hf
  have Hval := Lib.hid hval
  clear hval hf
  go_enter Try.func38, Try.ntmps38
  go_wp2_with (first
    | (go_at_call 19; refine (checkPool_any _ _ ss _ (hv.below hb0)).mono ?_; rintro e w1 ⟨rfl, hb1⟩; have g0 : w1.cell? ⟨w.heap.size + 1, 0, none⟩ = some (.int .i64 coins) := cell_below hb1 (by simp [go_sem]); have g1 : w1.cell? ⟨w.heap.size, 1, none⟩ = some (.slice A ss.length c) := cell_below hb1 (by simp [go_sem]); have hw1 := hb0.trans (hb1.mono hb0.size))
    | (go_at_call 62; refine (Same.to hc1 (right_same _ _)).mono ?_; rintro e w' ⟨rfl, rfl⟩))
  have hG := World.block_lt_of_cell? w1 _ g0
  dsimp only at hG
  go_loopw [7, 25] (fun x i wr => ∃ (k : Nat) (A1 : Option Addr) (c1 : Nat), k ≤ ss.length ∧ i = .int .i64 k ∧ x = .slice A1 k c1 ∧ Below w1.heap.size w1 wr ∧ wr.ownsRow w1.heap.size 3 1 (.slice A1 k c1) k ((needL coins (ss.take k)).map (.int .i64)))
    (fun x i wr => ss.length - (intOf i).toNat)
  case atStart => exact ⟨0, none, 0, by omega, rfl, rfl, Below.refl _ _, World.ownsRow_nil _ _ _ _⟩
  case round =>
    obtain ⟨k, A1, c1, hk, rfl, rfl, hb, hown⟩ := hrel
    obtain ⟨wo, rfl⟩ : ∃ wo : World, wo = wr := ⟨_, rfl⟩
    have hbw := hw1.trans (hb.mono hw1.size)
    by_cases hlt : k < ss.length
    · obtain ⟨b, o, s, u, rfl, hs, hy, e0, e1, e2, e3, hby⟩ := hv.at_ hlt
      have q1 := Hval.out k s hs
      have Hq := Lib.hid q1
      have hok := seen_ok hn5 q1
      have hsn := strat_nums q1
      have Hst : Hid (needL coins (ss.take (k + 1)) = needL coins (ss.take k) ++ [(needN s coins : Int)]) := by
        show needL coins (ss.take (k + 1)) = _
        rw [List.take_add_one, hs]
        simp [needL]
      clear hs q1
      obtain ⟨A', c', rfl, hc', hm'⟩ := hy.form
      replace e0 := cell_below hbw e0
      replace e1 := cell_below hbw e1
      replace e2 := cell_below hbw e2
      replace e3 := cell_below hbw e3
      have hyr := hy.below hbw
      have hfd := field95
      go_wp2_with (first
        | (go_at_call 60; refine (look_any s _ _ (hyr.below ((Below.refl _ _).alloc (Nat.le_refl _) _)) hok (by omega) (by omega)).mono ?_; rintro e W3 ⟨rfl, hb3⟩))
      obtain ⟨un, hun⟩ : ∃ m : Nat, (s.hi - sumL s.seen) = m := ⟨(s.hi - sumL s.seen).toNat, by omega⟩
      have hnd : needN s coins = bsF (narrowB s coins) (un - 0) 0 un := by unfold needN; rw [hun]; rfl
      have hunb : un ≤ 400 := by omega
      have hum := hun
      rw [hun]
      clear hun
      have Hum := Lib.hid hum
      clear hum
      have h0 : W3.cell? ⟨wo.heap.size, 0, none⟩ = some (.int .i64 s.coins) := cell_below hb3 (by simp [go_sem])
      have h1 : W3.cell? ⟨wo.heap.size, 1, none⟩ = some (.int .i64 s.lo) := cell_below hb3 (by simp [go_sem])
      have h2 : W3.cell? ⟨wo.heap.size, 2, none⟩ = some (.int .i64 s.hi) := cell_below hb3 (by simp [go_sem])
      have h3 : W3.cell? ⟨wo.heap.size, 3, none⟩ = some (.slice A' s.seen.length c') := cell_below hb3 (by simp [go_sem])
      have hb3r : Below wo.heap.size wo W3 := ((Below.refl _ _).alloc (Nat.le_refl _) _).trans (hb3.mono (by simp))
      have h4 : W3.cell? ⟨w.heap.size + 1, 0, none⟩ = some (.int .i64 coins) := cell_below hb3r (cell_below hb g0)
      have hy3 := hyr.below hb3r
      go_loopw [11, 12] (fun x y wi => ∃ lo hi : Nat, x = .int .i64 lo ∧ y = .int .i64 hi ∧ lo ≤ hi ∧ hi ≤ un ∧ bsF (narrowB s coins) (hi - lo) lo hi = needN s coins ∧ Below W3.heap.size W3 wi) (fun x y _ => (intOf y - intOf x).toNat)
      case atStart => exact ⟨0, un, rfl, rfl, by omega, Nat.le_refl _, hnd.symm, Below.refl _ _⟩
      case round =>
        obtain ⟨lo, hi, rfl, rfl, hlh, hhu, hbs, hbi⟩ := hrel
        have HB := Lib.hid hbs
        clear hbs hnd
        by_cases hl : lo < hi
        · have hl' : (lo : Int) < (hi : Int) := by omega
          have hll : (lo : Int) ≤ 400 := by omega
          have hhh : (hi : Int) ≤ 400 := by omega
          obtain ⟨mid, hmid⟩ : ∃ mid : Nat, mid = (lo + hi) / 2 := ⟨_, rfl⟩
          have hmi : ((lo : Int) + (hi : Int)) / 2 = (mid : Int) := by omega
          have hmb : (mid : Int) ≤ 400 := by omega
          have hmu : mid ≤ un := by omega
          have hyi := hy3.below hbi
          have j0 := cell_below hbi h0
          have j1 := cell_below hbi h1
          have j2 := cell_below hbi h2
          have j3 := cell_below hbi h3
          have j4 := cell_below hbi h4
          have Hmid := Lib.hid hmid
          clear hmid
          cases hnb : narrowB s coins mid with
          | true =>
            have Hnb := Lib.hid hnb
            clear hnb
            go_wp2_with (go_at_call 63; refine (Gives.to Hnb.out (needed1_any n s _ coins mid _ _ _ hyi hn5 Hq.out (by rw [Hum.out]; omega) j0 j1 j2 j3 j4)).mono ?_; rintro e w4 ⟨rfl, hb4⟩)
            go_roundw
            case rel =>
              refine ⟨lo, mid, rfl, rfl, by have := Hmid.out; omega, hmu, ?_, hbi.trans (hb4.mono hbi.size)⟩
              have e := Hmid.out
              rw [e, ← bsF_yes _ hl (by rw [← e]; exact Hnb.out)]
              exact HB.out
            case measure => simp [intOf]; have := Hmid.out; omega
          | false =>
            have Hnb := Lib.hid hnb
            clear hnb
            go_wp2_with (go_at_call 63; refine (Gives.to Hnb.out (needed1_any n s _ coins mid _ _ _ hyi hn5 Hq.out (by rw [Hum.out]; omega) j0 j1 j2 j3 j4)).mono ?_; rintro e w4 ⟨rfl, hb4⟩)
            go_roundw
            case rel =>
              refine ⟨mid + 1, hi, rfl, rfl, by have := Hmid.out; omega, hhu, ?_, hbi.trans (hb4.mono hbi.size)⟩
              have e := Hmid.out
              rw [e, ← bsF_no _ hl (by rw [← e]; exact Hnb.out)]
              exact HB.out
            case measure => simp [intOf]; have := Hmid.out; omega
        · obtain rfl : lo = hi := by omega
          have hwi : Below wo.heap.size wo wr := hb3r.trans (hbi.mono hb3r.size)
          have howni := own_below hown hwi
          have hlo : needN s coins = lo := by
            have := HB.out
            rw [bsF_stop _ (Nat.le_refl _)] at this
            exact this.symm
          have Hlo := Lib.hid hlo
          clear hlo
          have hwib := hwi.size
          have hbs := hb.size
          have hnl : (needL coins (ss.take k)).length = k := by simp [needL]; omega
          go_wp2_with (at_builtin; refine wpList_append_src _ rfl (.tmp 46) (.tmp 48) 35 rfl w1.heap.size 3 i0 _ 1 8 Try.underlying35 hi0 hz0 hz1 hz2 rfl (by omega) _ k ((needL coins (ss.take k)).map (.int .i64)) rfl (howni.alloc _) (some ⟨wr.heap.size, 0, none⟩) 1 1 [.int .i64 lo] rfl (src_new wr [.int .i64 lo] 3 1 1 rfl) (by simp [Value.oneCell']) (by simp [maxLen]; omega) (by omega) (by simp; omega) ?_; intro v2 w2 hown2 hg2 hat2; obtain ⟨A2, c2, rfl⟩ := own_form hown2)
          have hg3 : (wr.alloc (.cells #[.int .i64 lo] 3)).grownBy w2 (Value.slice A1 k c1).ownBlock := hg2
          clear hg2
          have hba : Below w1.heap.size w1 (wr.alloc (.cells #[.int .i64 lo] 3)) := (hb.trans (hwi.mono hb.size)).alloc (by omega) _
          have hb2 : Below w1.heap.size w1 w2 := below_grown hba hg3 (by simp; omega) (howni.alloc _) (Nat.le_refl _)
          go_roundw
          case rel =>
            refine ⟨k + 1, A2, c2, by omega, rfl, rfl, hb2, ?_⟩
            rw [Hst.out, Hlo.out, List.map_append]
            exact hown2
          case measure => simp [intOf]; omega
    · obtain rfl : k = ss.length := by omega
      go_wp2
      go_ret2
      rw [List.take_length] at hown
      have hnl : (needL coins ss).length = ss.length := by simp [needL]
      exact ⟨A1, c1, by rw [hnl]; rfl, by rw [hnl]; exact own_mono hown hw1.size, hbw⟩
end Go.Proofs.Ytobeffjdfhkjeaa
