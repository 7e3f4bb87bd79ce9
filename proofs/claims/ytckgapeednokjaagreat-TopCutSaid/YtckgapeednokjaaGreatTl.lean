import Derived.Laws.CopyOwn
import Derived.Test.YtckgapeednokjaaGreatFr
import Derived.Test.YtckgapeednokjaaGreatTk
set_option linter.unusedVariables false
set_option linter.unusedSimpArgs false
namespace Go.Proofs.YtckgapeednokjaaGreat
open Go Go.Proofs Go.RowKit

/-! ### slices.Repeat -/
set_option maxRecDepth 100000 in
set_option maxHeartbeats 1600000 in
theorem Mul64_one (n : Nat) (hn : n ≤ 12) (w : World) : Calls Tryz.prog 196 #[.int .u64 1, .int .u64 (n : Int)] w (Same w (.tuple #[.int .u64 0, .int .u64 (n : Int)])) := by
  have h : n = 0 ∨ n = 1 ∨ n = 2 ∨ n = 3 ∨ n = 4 ∨ n = 5 ∨ n = 6 ∨ n = 7 ∨ n = 8 ∨ n = 9 ∨ n = 10 ∨ n = 11 ∨ n = 12 := by omega
  clear hn
  rcases h with rfl | rfl | rfl | rfl | rfl | rfl | rfl | rfl | rfl | rfl | rfl | rfl | rfl
  all_goals
    go_enter Tryz.func196, Tryz.ntmps196
    go_wp2
    go_ret2
    exact ⟨rfl, rfl⟩
theorem Mul_one (n : Nat) (hn : n ≤ 12) (w : World) : Calls Tryz.prog 142 #[.int .u64 1, .int .u64 (n : Int)] w (Same w (.tuple #[.int .u64 0, .int .u64 (n : Int)])) := by
  have Hm := Lib.hid (Mul64_one n hn w)
  go_enter Tryz.func142, Tryz.ntmps142
  go_wp2_with (go_at_call 196; refine Hm.out.mono ?_; rintro e w1 ⟨rfl, rfl⟩)
  go_ret2
  exact ⟨rfl, rfl⟩
def repC (N n : Nat) : List Value := List.replicate n (.int .i64 (-1)) ++ List.replicate (N - n) (.int .i64 0)
theorem repC_len {N n : Nat} (h : n ≤ N) : (repC N n).length = N := by simp [repC]; omega
theorem repC_zero (N : Nat) : repC N 0 = List.replicate N (.int .i64 0) := by simp [repC]
theorem repC_full (N : Nat) : repC N N = (List.replicate N (-1 : Int)).map (.int .i64) := by simp [repC]
theorem repC_splice {N n m : Nat} (h : n + m ≤ N) : splice (repC N n) n (List.replicate m (.int .i64 (-1))) = repC N (n + m) := by
  unfold splice repC
  rw [List.length_replicate, List.take_left' (by simp), ← List.append_assoc, List.drop_append]
  rw [List.drop_replicate, List.length_replicate, List.drop_replicate, List.replicate_append_replicate]
  have e1 : n - (n + m) = 0 := by omega
  have e2 : N - n - (n + m - n) = N - (n + m) := by omega
  rw [e1, e2]
  rfl
theorem repC_get {N n j : Nat} (h : j < n) (hn : n ≤ N) : (repC N n)[j]? = some (.int .i64 (-1)) := by
  unfold repC
  rw [List.getElem?_append_left (by simpa using h), List.getElem?_replicate, if_pos h]
theorem int_size : (Tryz.prog.info? 3).map (·.size) = some 1 := by kernel_rfl
theorem made_ints {w : World} {g N : Nat} {t : TypeId} (h : w.heap[g]? = some (.cells (madeCells (Value.int .i64 0).cells (N * 1)).toList.toArray t (0, 0))) : w.heap[g]? = some (.cells (repC N 0).toArray t (0, 0)) := by
  rw [h, Nat.mul_one, repC_zero, show (madeCells (Value.int .i64 0).cells N).toList = List.replicate N (.int .i64 0) from toList_madeCells_one _ _]
set_option maxRecDepth 100000 in
set_option maxHeartbeats 3200000 in
theorem Repeat_one (b N : Nat) (w : World) (hb : w.cell? ⟨b, 0, none⟩ = some (.int .i64 (-1))) (hN : N ≤ 12) :
    Calls Tryz.prog 88 #[.slice (some ⟨b, 0, none⟩) 1 1, .int .i64 (N : Int)] w fun e w' => ∃ g, e = .returned (.slice (some ⟨g, 0, none⟩) N N) ∧ w.heap.size ≤ g ∧ w'.heap[g]? = some (.cells ((List.replicate N (-1 : Int)).map (.int .i64)).toArray 3 (0, 0)) ∧ Below w.heap.size w w' := by
  obtain ⟨i0, hi0, hz0, hz1, hz2⟩ := info_parts infoI
  have Hm := Lib.hid (fun V => Mul_one N hN V)
  obtain ⟨m0, hm0⟩ : ∃ m, m = Nat.min 1 N := ⟨_, rfl⟩
  have hm1 : m0 ≤ 1 ∧ m0 ≤ N ∧ (0 < N → m0 = 1) := by rw [hm0]; simp only [Nat.min_def]; split <;> omega
  obtain ⟨CS, hCS⟩ : ∃ CS, CS = List.replicate m0 (Value.int .i64 (-1)) := ⟨_, rfl⟩
  have hCSl : CS.length = m0 := by rw [hCS]; simp
  have hCS1 : ∀ v ∈ CS, v.oneCell' = true := fun v hv => by rw [hCS, List.mem_replicate] at hv; rw [hv.2]; rfl
  have hCSn : CS.length = Nat.min 1 N := hCSl.trans hm0
  have hCSg : ∀ (V : World), Below w.heap.size w V → 0 < CS.length → ∀ (j : Nat) (v : Value), CS[j]? = some v → V.cell? ((⟨b, 0, none⟩ : Addr).add j) = some v := fun V hV h0 j v hj => by
    have hjl := (List.getElem?_eq_some_iff.1 hj).1
    obtain rfl : j = 0 := by omega
    have := List.mem_of_getElem? hj
    rw [hCS, List.mem_replicate] at this
    rw [this.2]
    exact cell_below hV hb
  have H1 := Lib.hid hCS1
  have Hn := Lib.hid hCSn
  have Hg := Lib.hid hCSg
  have Hl := Lib.hid hCSl
  have HCS := Lib.hid hCS
  clear hCS hCSl hCS1 hCSn hCSg hm0
  go_enter Tryz.func88, Tryz.ntmps88
  go_wp2_with (first
    | (go_at_call 142; refine (Hm.out _).mono ?_; rintro e w1 ⟨rfl, rfl⟩)
    | (at_make; refine wpList_make_full _ rfl _ _ 29 rfl w.heap.size 3 i0 _ 1 Tryz.underlying29 hi0 hz0 hz1 _ _ _ _ N rfl rfl rfl rfl (by rw [hz2]; omega) (by simp [maxLen]; omega) (Nat.le_refl _) ?_; intro wm hownm hgm; have Hbm := Lib.hid (show Below w.heap.size w wm from (Below.refl _ _).grown hgm (Nat.le_refl _) (by simp)); have Hbk := Lib.hid (made_ints (block_own hownm)); clear hgm hownm)
    | (with_reducible refine wpList_copy_splice rfl (.tmp 31) (.tmp 32) 29 29 rfl 3 Tryz.underlying29 int_size _ _ _ _ _ _ rfl rfl w.heap.size 0 (repC N 0) 3 Hbk.out CS Hn.out (fun h => ⟨rfl, _, rfl, Hg.out _ Hbm.out h⟩) (by rw [Hl.out, repC_len (Nat.zero_le _)]; omega) H1.out w.heap.size w Hbm.out (Nat.le_refl _) ?_; intro wc HGc hbc))
  have hGc := HGc.out
  rw [HCS.out, repC_splice (by omega), Nat.zero_add] at hGc
  have HG := Lib.hid hGc
  have Hbc := Lib.hid hbc
  clear HGc hGc hbc
  rw [Hl.out]
  go_loopw [8] (fun s wr => ∃ n : Nat, n ≤ N ∧ (0 < N → 1 ≤ n) ∧ s = .int .i64 (n : Int) ∧ Below w.heap.size w wr ∧ wr.heap[w.heap.size]? = some (.cells (repC N n).toArray 3 (0, 0))) (fun s _ => N - (intOf s).toNat)
  case atStart => exact ⟨m0, hm1.2.1, fun h => by have := hm1.2.2 h; omega, rfl, Hbc.out, HG.out⟩
  case round =>
    obtain ⟨n, hn, hn1, rfl, hbr, hgr⟩ := hrel
    by_cases hlt : n < N
    · obtain ⟨m, hm⟩ : ∃ m, m = Nat.min n (N - n) := ⟨_, rfl⟩
      have hm2 : m ≤ n ∧ m ≤ N - n ∧ 1 ≤ m := by have := hn1 (by omega); rw [hm]; simp only [Nat.min_def]; split <;> omega
      have Hmm := Lib.hid hm
      clear hm
      have hd0 : Below wr.heap.size wr wr.drew := (Below.refl _ _).drew
      have Hgr := Lib.hid hgr
      clear hgr
      go_wp2_with fail
      refine wp_region_noPanic ?_
      refine wp_region_pick [0, 1, 2, 3, 4, 5, 6] [7, 8, 9] (fun _ => true) (fun _ => True) (by kernel_rfl) (by kernel_rfl) (fun _ _ _ _ _ h => h) trivial (fun hne => ?_)
      simp only [pick, pickN, List.filterMap_cons, List.filterMap_nil, List.getElem?_cons_zero, List.getElem?_cons_succ, Option.map_some]
      repeat (change wpQuiet _ _ _ _ (_ :: _) _; go_big_quiet_step (fail))
      refine wpQuiet_nil ?_
      clear hne
      refine wpSeqP_step (fun K hK => ?_)
      refine step_copy_splice rfl (.tmp 41) (.tmp 44) 29 29 rfl 3 Tryz.underlying29 int_size _ _ _ _ _ _ rfl rfl w.heap.size n (repC N n) 3 Hgr.out (List.replicate m (.int .i64 (-1))) (by rw [List.length_replicate]; exact Hmm.out) (fun h => ⟨?_, _, rfl, fun j v hj => ?_⟩) (by rw [List.length_replicate, repC_len hn]; omega) (fun v hv => by rw [List.mem_replicate] at hv; rw [hv.2]; rfl) w.heap.size w (hbr.trans (hd0.mono hbr.size)) (Nat.le_refl _) ?_
      · rfl
      · have hjm := (List.getElem?_eq_some_iff.1 hj).1
        rw [List.length_replicate] at hjm
        have hv := List.mem_of_getElem? hj
        rw [List.mem_replicate] at hv
        rw [hv.2]
        rw [add_none, Nat.zero_add]
        have := box_cells (w := wr.drew) Hgr.out j
        rw [this, List.getElem?_toArray]
        exact repC_get (by omega) hn
      intro wc HGc hbc
      rw [List.length_replicate]
      have hGc := HGc.out
      rw [repC_splice (by omega)] at hGc
      have HG2 := Lib.hid hGc
      have qw : IntKind.i64.wrap ((n : Int) + (m : Int)) = ((n + m : Nat) : Int) := by rw [IntWalk.i64_in _ (by omega)]; omega
      clear HGc hGc
      refine hK.out _ _ (fun _ => trivial) ?_
      clear hK K
      refine wpSeqP_step (fun K hK => ?_)
      go_simp
      refine hK.out _ _ (fun _ => trivial) ?_
      clear hK K
      refine wpSeqP_step (fun K hK => ?_)
      go_simp
      refine hK.out _ _ (fun _ => trivial) ?_
      clear hK K
      refine wpSeqP_nil ?_
      refine NoPanic.normal ?_
      go_wp2
      go_roundw
      case rel => exact ⟨n + m, by omega, fun _ => by omega, by first | go_num | rw [qw] | simp [qw], hbc, HG2.out⟩
      case measure =>
        try rw [qw]
        simp only [intOf, Int.toNat_natCast]
        omega
    · obtain rfl : n = N := by omega
      rw [repC_full] at hgr
      go_wp2
      go_ret
      exact ⟨w.heap.size, rfl, Nat.le_refl _, hgr, hbr⟩
end Go.Proofs.YtckgapeednokjaaGreat
