import Derived.Test.YtobeffjdfhkjeaaTr
import Derived.Test.YtobeffjdfhkjeaaW4
set_option linter.unusedVariables false
set_option linter.unusedSimpArgs false
namespace Go.Proofs.Ytobeffjdfhkjeaa
open Go Go.Proofs Go.RowKit

set_option maxRecDepth 100000 in
set_option maxHeartbeats 3200000 in
theorem taken_any (n : Int) (v : Value) (ss : List Strat) (co : Nat) (w : World) (hv : StrataAt w v ss) (hf : faultI n ss = 0) (hco : (co : Int) < n) :
    Calls Try.prog 29 #[.agg #[.int .i64 n, v], .int .i64 co] w (GivesRows w (takenL ss co)) := by
  have hb0 : Below w.heap.size w (w.alloc (.cells #[.int .i64 n, v] 24)) := (Below.refl _ _).alloc (Nat.le_refl _) _
  obtain ⟨A, c, rfl, hc, hm⟩ := hv.form
  obtain ⟨i0, hi0, hz0, hz1, hz2⟩ := info_parts info35
  have hfz := fault_zero hf
  have hs8 := hfz.1
  have hn5 := hfz.2.2.1
  have Hval := Lib.hid hfz.2.2.2
  have htl : (takenL ss co).length = ss.length := by simp [takenL]
  have Htl := Lib.hid htl
  clear hfz hf htl
  go_enter Try.func29, Try.ntmps29
  go_wp2
  go_loopw [5, 6] (fun x i wr => ∃ (k : Nat) (A2 : Option Addr) (c2 : Nat) (us : List Value), k ≤ ss.length ∧ i = .int .i64 k ∧ x = .slice A2 k c2 ∧ Below w.heap.size w wr ∧ w.heap.size < wr.heap.size ∧
      wr.cell? ⟨w.heap.size, 0, none⟩ = some (.int .i64 n) ∧ wr.cell? ⟨w.heap.size, 1, none⟩ = some (.slice A ss.length c) ∧ wr.ownsRow (w.heap.size + 1) 35 1 (.slice A2 k c2) k us ∧
      RowsOwn wr (w.heap.size + 1) us ((takenL ss co).take k)) (fun x i wr => ss.length - (intOf i).toNat)
  case atStart => exact ⟨0, none, 0, [], by omega, rfl, rfl, hb0, by simp, by simp [go_sem], by simp [go_sem], World.ownsRow_nil _ _ _ _, ⟨by simp, by intro j l h; simp at h⟩⟩
  case round =>
    obtain ⟨k, A2, c2, us, hk, rfl, rfl, hb, hlt0, hc0, hc1, hown, hro⟩ := hrel
    obtain ⟨wo, rfl⟩ : ∃ wo : World, wo = wr := ⟨_, rfl⟩
    by_cases hlt : k < ss.length
    · have hlt' : (k : Int) < (ss.length : Int) := by omega
      obtain ⟨b, o, s, y, rfl, hs, hy, e0, e1, e2, e3, hby⟩ := hv.at_ hlt
      have hst := Hval.out k s hs
      have Hs := Lib.hid hs
      have Hst := Lib.hid hst
      obtain ⟨hcoin, hhi, hun, hse⟩ := strat_nums hst
      obtain ⟨_, hlo, hlh, _, hsn, _, hsl⟩ := stratB_iff.1 hst
      have hok : SumOk s.seen := seen_ok hn5 hst
      have hsn5 : s.seen.length ≤ 5 := by omega
      have hpos : 0 < s.seen.length := by omega
      have hcs : co < s.seen.length := by omega
      have Hco : Hid ((co : Int) < (s.seen.length : Int)) := (by omega : (co : Int) < (s.seen.length : Int))
      have hcoI : (co : Int) < (s.seen.length : Int) := Hco.out
      have Hro := Lib.hid hro
      have hsa := seen_at hst co
      clear hs hst hse hsn hro
      replace hy := hy.below hb
      obtain ⟨B, C, rfl, hC, hC'⟩ := hy.form
      replace e0 := cell_below hb e0
      replace e1 := cell_below hb e1
      replace e2 := cell_below hb e2
      replace e3 := cell_below hb e3
      have hby1 : b < wo.heap.size := by have := hb.size; omega
      go_wp2_with fail
      refine (list_any _ s.seen _ hy (by omega)).mono ?_
      rintro e w1 ⟨A1, C1, rfl, ho1, hb1⟩
      obtain ⟨g, rfl, hg1, hg2⟩ := own_some ho1 hpos
      obtain ⟨x, hx⟩ : ∃ x, s.seen[co]?.getD 0 = x := ⟨_, rfl⟩
      have r1 : w1.cell? ⟨g, co, none⟩ = some (.int .i64 x) := by
        rw [ho1.cellAt co (by omega), List.getElem?_map, ← hx, List.getElem?_eq_getElem hcs]
        rfl
      have r2 := ho1.frozenAt co
      rw [hx] at hsa
      have Hx := Lib.hid hx
      clear hx
      replace e0 := cell_below hb1 e0
      replace e1 := cell_below hb1 e1
      replace e2 := cell_below hb1 e2
      replace e3 := cell_below hb1 e3
      have k1 := cell_below hb1 hc1
      have hy1 := hy.below hb1
      go_wp2_with fail
      refine wp_region_noPanic ?_
      refine wp_region_pick [0, 1, 2, 3, 4, 5, 6, 7, 8] [9, 10, 11, 12] (fun j => j != 12) (fun w' => w'.cell? ⟨w.heap.size, 1, none⟩ = some (.slice (some ⟨b, o, none⟩) ss.length c) ∧ w'.cell? ⟨g, co, none⟩ = some (.int .i64 x) ∧ w'.cell? ⟨b, o + k * 4, none⟩ = some (.int .i64 s.coins) ∧ w'.cell? ⟨b, o + k * 4 + 1, none⟩ = some (.int .i64 s.lo) ∧
          w'.cell? ⟨b, o + k * 4 + 2, none⟩ = some (.int .i64 s.hi) ∧ w'.cell? ⟨b, o + k * 4 + 3, none⟩ = some (.slice B s.seen.length C)) (by kernel_rfl) (by kernel_rfl) (fun _ _ _ _ _ h => h)
        ⟨k1, r1, e0, e1, e2, e3⟩ (fun hne => ?_)
      have m0 := fun x : Meets (fun w' => w'.cell? ⟨w.heap.size, 1, none⟩ = some (.slice (some ⟨b, o, none⟩) ss.length c) ∧ w'.cell? ⟨g, co, none⟩ = some (.int .i64 x) ∧ w'.cell? ⟨b, o + k * 4, none⟩ = some (.int .i64 s.coins) ∧ w'.cell? ⟨b, o + k * 4 + 1, none⟩ = some (.int .i64 s.lo) ∧
          w'.cell? ⟨b, o + k * 4 + 2, none⟩ = some (.int .i64 s.hi) ∧ w'.cell? ⟨b, o + k * 4 + 3, none⟩ = some (.slice B s.seen.length C)) => x.property
      have x0 := fun x => (m0 x).1
      have x1 := fun x => (m0 x).2.1
      have x2 := fun x => (m0 x).2.2.1
      have x3 := fun x => (m0 x).2.2.2.1
      have x4 := fun x => (m0 x).2.2.2.2.1
      have x5 := fun x => (m0 x).2.2.2.2.2
      clear m0
      simp only [pick, pickN, List.filterMap_cons, List.filterMap_nil, List.getElem?_cons_zero, List.getElem?_cons_succ, Option.map_some]
      repeat (change wpQuiet _ _ _ _ (_ :: _) _; go_big_quiet_step (fail))
      refine wpQuiet_nil ?_
      clear x0 x1 x2 x3 x4 x5 hne
      refine wpSeqP_step (fun K hK => ?_)
      go_simp
      refine (Unseen_any s _ _ (hy1.below (Below.refl _ _).drew) hok (by omega) (by omega)).mono ?_
      rintro e w2 ⟨rfl, hb2⟩
      have hb2d : Below w1.heap.size w1 w2 := (Below.refl w1.heap.size w1).drew.trans hb2
      refine hK.out _ _ (fun _ => ⟨cell_below hb2d k1, cell_below hb2d r1, cell_below hb2d e0, cell_below hb2d e1, cell_below hb2d e2, cell_below hb2d e3⟩) ?_
      clear hK K
      have hwr : IntKind.i64.wrap (x + (s.hi - sumL s.seen)) = x + (s.hi - sumL s.seen) := IntWalk.i64_in _ (by omega)
      refine wpSeqP_step (fun K hK => ?_)
      go_simp
      refine hK.out _ _ (fun _ => ⟨cell_below hb2d k1, cell_below hb2d r1, cell_below hb2d e0, cell_below hb2d e1, cell_below hb2d e2, cell_below hb2d e3⟩) ?_
      clear hK K hwr
      have ho2 := own_below ho1 hb2d
      have r1' := cell_below hb2d r1
      have r2' := ho2.frozenAt co
      have hst1 := ho2.stored co (.int .i64 (x + (s.hi - sumL s.seen)))
      rw [← List.map_set] at hst1
      have Hst1 := Lib.hid hst1.1
      clear hst1
      refine wpSeqP_step (fun K hK => ?_)
      go_simp
      refine hK.out _ _ (fun _ => ⟨cell_below hb2d k1, r1', cell_below hb2d e0, cell_below hb2d e1, cell_below hb2d e2, cell_below hb2d e3⟩) ?_
      clear hK K
      refine wpSeqP_step (fun K hK => ?_)
      go_simp
      refine hK.out _ _ (fun h => by cases h) ?_
      clear hK K
      refine wpSeqP_nil ?_
      refine NoPanic.normal ?_
      have hsz1 := hb.size
      have hsz2 := hb1.size
      have hsz3 := hb2d.size
      have hbx : Below wo.heap.size wo (w2.setCell ⟨g, co, none⟩ (.int .i64 (x + (s.hi - sumL s.seen)))) := (hb1.trans (hb2d.mono hb1.size)).setCell (p := ⟨g, co, none⟩) (by simp only; omega) _
      have hrow : s.seen.set co (x + (s.hi - sumL s.seen)) = takenRow s co := by unfold takenRow; rw [Hx.out]
      rw [hrow] at Hst1
      have hown1 := own_below hown hbx
      have hro1 := Hro.out.below hbx
      have oi := Hst1.out
      have hll : (takenRow s co).length = s.seen.length := by simp [takenRow]
      rw [← hll] at oi ⊢
      have Hro1 := Lib.hid hro1
      have Hoi := Lib.hid oi
      generalize hwi : w2.setCell ⟨g, co, none⟩ (.int .i64 (x + (s.hi - sumL s.seen))) = wi at *
      have hsz4 := hbx.size
      clear hwi hro1 oi hrow hll r1 r2 e0 e1 e2 e3 k1 hy1 r1' r2' Hst1
      go_wp2_with (at_builtin; refine wpList_append_src _ rfl (.tmp 34) (.tmp 36) 25 rfl (w.heap.size + 1) 35 i0 _ 1 24 Try.underlying25 hi0 hz0 hz1 hz2 rfl (by omega) _ k us rfl (hown1.alloc _) (some ⟨wi.heap.size, 0, none⟩) 1 1 [.slice (some ⟨g, 0, none⟩) (takenRow s co).length C1] rfl (src_new wi [.slice (some ⟨g, 0, none⟩) (takenRow s co).length C1] 35 1 1 rfl) (by simp [Value.oneCell']) (by simp [maxLen]; omega) (by omega) (by simp; omega) ?_; intro v5 w5 hown5 hg5 hat5; obtain ⟨A5, c5, rfl⟩ := own_form hown5)
      have hg6 : (wi.alloc (.cells #[.slice (some ⟨g, 0, none⟩) (takenRow s co).length C1] 35)).grownBy w5 (Value.slice A2 k c2).ownBlock := hg5
      clear hg5
      have hba : Below wo.heap.size wo (wi.alloc (.cells #[.slice (some ⟨g, 0, none⟩) (takenRow s co).length C1] 35)) := hbx.alloc hbx.size _
      have hbaw : Below (w.heap.size + 1) wo (wi.alloc (.cells #[.slice (some ⟨g, 0, none⟩) (takenRow s co).length C1] 35)) := hba.mono (by omega)
      have hb5 : Below (w.heap.size + 1) wo w5 := below_grown hbaw hg6 (by simp; omega) (hown1.alloc _) (Nat.le_refl _)
      go_roundw
      case rel =>
        refine ⟨k + 1, A5, c5, us ++ [.slice (some ⟨g, 0, none⟩) (takenRow s co).length C1], by omega, by go_num, rfl, hb.trans (hb5.mono (by omega)), by have := hb5.size; omega, ?_, ?_, hown5, ?_⟩
        · rw [hb5.cell (p := ⟨w.heap.size, 0, none⟩) (by simp)]; exact hc0
        · rw [hb5.cell (p := ⟨w.heap.size, 1, none⟩) (by simp)]; exact hc1
        · have h1 : RowsOwn (wi.alloc (.cells #[.slice (some ⟨g, 0, none⟩) (takenRow s co).length C1] 35)) (w.heap.size + 1) us ((takenL ss co).take k) := Hro1.out.below ((Below.refl _ _).alloc (Nat.le_refl _) _)
          have h2 := h1.kept (hown1.alloc _) (by decide) hg6
          have e : (takenL ss co)[k]? = some (takenRow s co) := by simp [takenL, Hs.out]
          rw [List.take_add_one, e]
          exact h2.snoc (own_mono ((Hoi.out.alloc _).kept hg6 (own_apart Hoi.out hown1 (by decide))) (by omega))
      case measure => simp [intOf]; omega
    · obtain rfl : k = ss.length := by omega
      have Hro := Lib.hid hro
      clear hro
      go_wp2
      go_ret
      refine ⟨A2, c2, us, by rw [Htl.out]; rfl, ?_, ?_, hb⟩
      · rw [Htl.out]; exact own_mono hown (by omega)
      · have := Hro.out.mono (base' := w.heap.size) (by omega)
        rwa [List.take_of_length_le (by rw [Htl.out]; exact Nat.le_refl _)] at this
end Go.Proofs.Ytobeffjdfhkjeaa
