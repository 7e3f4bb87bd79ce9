import Derived.Test.YtmbkpfkkohpnkaaGreatTa
set_option linter.unusedVariables false
set_option linter.unusedSimpArgs false
namespace Go.Proofs.YtmbkpfkkohpnkaaGreat
open Go Go.Proofs Go.RowKit

theorem info_Tickets_law : (Tryz.prog.info? 54).map (fun i => (i.zero, i.size, i.bytes)) = some (some (.agg #[.int .u8 0, .int .i64 0, .int .i64 0, .int .i64 0, .int .i64 0]), 5, 40) := by kernel_rfl
set_option maxRecDepth 100000 in
set_option maxHeartbeats 2000000 in
theorem Tickets_law (v : Value) (l : List Tk) (w : World) (hv : TksAt w v l) (hl : l.length ≤ 1000000) : Calls Tryz.prog 13 #[v] w fun e w' => ∃ A c, e = .returned (.slice A l.length c) ∧ TksAt w' (.slice A l.length c) l ∧ Below w.heap.size w w' := by
  obtain ⟨Av, cv, rfl, _, _⟩ := hv.form
  obtain ⟨i0, hi0, hz0, hz1, hz2⟩ := info_parts info_Tickets_law
  obtain ⟨N, hN⟩ : ∃ N, l.length = N := ⟨_, rfl⟩
  rw [hN] at hv hl ⊢
  have HN := Lib.hid hN
  have ho0 : w.ownsRow w.heap.size 54 5 (.slice none 0 0) 0 ([] : List Value) := World.ownsRow_nil _ _ _ _
  have Hv := Lib.hid hv
  clear hv hN
  go_enter Tryz.func13, Tryz.ntmps13
  go_wp2
  go_loopw [3, 4] (fun o s wr => ∃ (k : Nat) (A : Option Addr) (c : Nat), k ≤ N ∧ o = .slice A k c ∧ s = .int .i64 k ∧ Below w.heap.size w wr ∧ wr.ownsRow w.heap.size 54 5 (.slice A k c) k ((l.take k).flatMap tkC)) (fun o s wr => N - (intOf s).toNat)
  case atStart => exact ⟨0, none, 0, by omega, rfl, rfl, Below.refl _ _, ho0⟩
  case round =>
    obtain ⟨k, A, c, hk, rfl, rfl, hbr, hor⟩ := hrel
    have Hbr := Lib.hid hbr
    have Hor := Lib.hid hor
    clear hbr hor ho0
    by_cases hlt : k < N
    · obtain ⟨bb, oo, x, rfl, hx, d0, d1, d2, d3, d4, _⟩ := Hv.out.at_ (n := N) (k := k) (by have := HN.out; omega)
      have ik : (k : Int) < (N : Int) := by omega
      have htk : l.take (k + 1) = l.take k ++ [x] := by rw [List.take_add_one, hx]; rfl
      have Htk := Lib.hid htk
      have hd : Below w.heap.size w wr.drew := Hbr.out.drew
      have Ho5 := Lib.hid (own_below Hor.out ((Below.refl _ _).drew))
      clear hx htk
      go_upto_region 5 with (fail)
      refine wp_region_noPanic ?_
      refine wp_region_pick [0, 1, 2, 3, 4, 5, 6, 7, 8, 9, 10, 11, 12, 13, 14, 15, 16, 17, 18, 19, 20, 21, 22, 23, 24, 25, 26] [27, 28, 29] (fun _ => true) (fun w' => Below w.heap.size w w') (by kernel_rfl) (by kernel_rfl) (fun _ _ _ _ _ h => h) hd (fun hne => ?_)
      have n0 := fun y : Meets (fun w' => Below w.heap.size w w') => cell_below y.property d0
      have n1 := fun y : Meets (fun w' => Below w.heap.size w w') => cell_below y.property d1
      have n2 := fun y : Meets (fun w' => Below w.heap.size w w') => cell_below y.property d2
      have n3 := fun y : Meets (fun w' => Below w.heap.size w w') => cell_below y.property d3
      have n4 := fun y : Meets (fun w' => Below w.heap.size w w') => cell_below y.property d4
      simp only [pick, pickN, List.filterMap_cons, List.filterMap_nil, List.getElem?_cons_zero, List.getElem?_cons_succ, Option.map_some]
      repeat (change wpQuiet _ _ _ _ (_ :: _) _; go_big_quiet_step (fail))
      refine wpQuiet_nil ?_
      clear n0 n1 n2 n3 n4 hne d0 d1 d2 d3 d4
      refine wpSeqP_step (fun K hK => ?_)
      go_simp
      have hbc := hd.alloc hd.size (.cells (tkC x).toArray 54)
      refine hK.out _ _ (fun _ => hbc) ?_
      clear hK K
      refine wpSeqP_step (fun K hK => ?_)
      refine step_append_src _ rfl (.tmp 11) (.tmp 38) 38 rfl w.heap.size 54 i0 _ 5 40 Tryz.underlying38 hi0 hz0 hz1 hz2 rfl (by omega) _ k _ rfl (Ho5.out.alloc _) (some ⟨wr.drew.heap.size, 0, none⟩) 1 1 (tkC x) rfl (src_new wr.drew (tkC x) 54 1 5 rfl) (by simp [tkC, Value.oneCell']) (by unfold maxLen; omega) (by omega) (Nat.le_trans hd.size (by simp)) ?_
      intro A6 c6 w6 hown6 hg6 hat6
      have hb6 : Below w.heap.size w w6 := below_grown hbc hg6 (Nat.le_trans hd.size (by simp)) (Ho5.out.alloc _) (Nat.le_refl _)
      refine hK.out _ _ (fun _ => hb6) ?_
      clear hK K
      refine wpSeqP_step (fun K hK => ?_)
      go_simp
      refine hK.out _ _ (fun _ => hb6) ?_
      clear hK K
      refine wpSeqP_nil ?_
      refine NoPanic.normal ?_
      have Hb6 := Lib.hid hb6
      have Ho6 := Lib.hid hown6
      clear hown6 hg6 hat6 hb6
      go_wp2
      go_roundw
      case rel =>
        refine ⟨k + 1, A6, c6, by omega, rfl, by go_num, Hb6.out, ?_⟩
        rw [Htk.out, List.flatMap_append]
        simpa using Ho6.out
      case measure => simp [intOf]; omega
    · have hke : k = l.length := by have := HN.out; omega
      have ik : ¬ (k : Int) < (N : Int) := by omega
      have hkN : k = N := by omega
      have ho := Hor.out
      rw [hke, List.take_length] at ho
      have hr := tks_own ho
      rw [HN.out] at hr
      have Hr := Lib.hid hr
      subst hkN
      clear hke ho hr
      go_wp2
      go_ret
      exact ⟨A, c, rfl, Hr.out, Hbr.out⟩
end Go.Proofs.YtmbkpfkkohpnkaaGreat
