import Derived.Test.YtmbkpfkkohpnkaaW7
import Derived.Test.YtmbkpfkkohpnkaaIt
import Derived.Deep.CutRange
set_option linter.unusedVariables false
set_option linter.unusedSimpArgs false
namespace Go.Proofs.Ytmbkpfkkohpnkaa
open Go Go.Proofs Go.RowKit

theorem rds_single (w : World) (r : Rd) (T : TypeId) : RdsAt (w.alloc (.cells (rdC r).toArray T)) (.slice (some ⟨w.heap.size, 0, none⟩) 1 1) [r] := by
  have hq := box_cells (heap_alloc_new w (.cells (rdC r).toArray T))
  refine ⟨_, 1, rfl, Nat.le_refl _, by simp [maxLen], fun _ => ⟨_, 0, rfl, fun j x hx => ?_⟩⟩
  have hj : j = 0 := by have := (List.getElem?_eq_some_iff.1 hx).1; simpa using this
  subst hj
  cases hx
  exact ⟨hq 0, hq 1, hq 2, hq 3⟩
theorem RdsAt.take {w : World} {b o n c k : Nat} {l : List Rd} (h : RdsAt w (.slice (some ⟨b, o, none⟩) n c) l) (hk : k ≤ n) : RdsAt w (.slice (some ⟨b, o, none⟩) k c) (l.take k) := by
  obtain ⟨A, c', e, h1, h2, h3⟩ := h
  cases e
  have hl : (l.take k).length = k := by rw [List.length_take]; omega
  refine ⟨_, c, by rw [hl], by omega, h2, fun h0 => ?_⟩
  obtain ⟨b', o', e, h4⟩ := h3 (by omega)
  cases e
  refine ⟨b, o, rfl, fun j r hr => h4 j r ?_⟩
  rw [List.getElem?_take] at hr
  split at hr
  · exact hr
  · cases hr
theorem RdsAt.drop {w : World} {b o n c k : Nat} {l : List Rd} (h : RdsAt w (.slice (some ⟨b, o, none⟩) n c) l) (hk : k ≤ n) : RdsAt w (.slice (some ⟨b, o + k * 4, none⟩) (n - k) (c - k)) (l.drop k) := by
  obtain ⟨A, c', e, h1, h2, h3⟩ := h
  cases e
  have hl : (l.drop k).length = l.length - k := by simp
  refine ⟨_, c - k, by rw [hl], by omega, by omega, fun h0 => ?_⟩
  obtain ⟨b', o', e, h4⟩ := h3 (by omega)
  cases e
  refine ⟨b, o + k * 4, rfl, fun j r hr => ?_⟩
  rw [List.getElem?_drop] at hr
  have := h4 (k + j) r hr
  rw [show o + k * 4 + j * 4 = o + (k + j) * 4 by omega]
  exact this
theorem RdsAt.drop0 {w : World} {b n c k : Nat} {l : List Rd} (h : RdsAt w (.slice (some ⟨b, 0, none⟩) n c) l) (hk : k ≤ n) : RdsAt w (.slice (if c = k then some ⟨b, 0, none⟩ else some ⟨b, k * 4, none⟩) (n - k) (c - k)) (l.drop k) := by
  have hd := RdsAt.drop h hk
  by_cases e : c = k
  · rw [if_pos e]
    obtain ⟨A, c', e', h1, h2, h3⟩ := h
    cases e'
    have hl : (l.drop k).length = l.length - k := by simp
    exact ⟨_, c - k, by rw [hl], by omega, by omega, fun h0 => by omega⟩
  · rw [if_neg e]
    rw [Nat.zero_add] at hd
    exact hd
set_option maxRecDepth 100000 in
set_option maxHeartbeats 4000000 in
theorem More_law (t : Tar) (a b c v : Value) (l : List Rd) (x : Rd) (n1 : Nat) (w : World) (hT : TarAt w a b c t) (hv : RdsAt w v l) (hsm : l.length * 32 ≤ 140737488351232) (hn1 : n1 < 256) :
    Calls Try.prog 7 #[.agg #[.int .i64 t.zones, a, b, c, .int .i64 t.window], v, .agg #[.int .i64 x.day, .int .i64 x.minute, .int .i64 x.low, .int .i64 x.high], .int .u8 (n1 : Int)] w (Gives w (.bool true)) := by
  obtain ⟨Av, cv, rfl, hcv, _⟩ := hv.form
  obtain ⟨i0, hi0, hz0, hz1, hz2⟩ := info_parts info_rdsR
  obtain ⟨N, hN⟩ : ∃ N, l.length = N := ⟨_, rfl⟩
  rw [hN] at hv hsm ⊢
  have HN := Lib.hid hN
  have HT := Lib.hid hT
  have Hv := Lib.hid hv
  clear hT hv hN
  go_enter Try.func7, Try.ntmps7
  go_upto_region 1 with (fail)
  refine wp_name (fun W => Below w.heap.size w W ∧ W.heap[w.heap.size]? = some (.cells #[.int .i64 t.zones, a, b, c, .int .i64 t.window] 24 (0, 0)) ∧ W.heap[w.heap.size + 1]? = some (.cells #[.int .i64 x.day, .int .i64 x.minute, .int .i64 x.low, .int .i64 x.high] 68 (0, 0)) ∧ w.heap.size + 1 < W.heap.size) ⟨two_below w _ _, (Below.heap_alloc _ _ _ (by simp)).trans (heap_alloc_new w _), heap_alloc2_new w _ _, by simp⟩ (fun W0 hW => ?_)
  obtain ⟨hb0, hx0, hm0, hs0⟩ := hW
  have hMB : w.heap.size ≤ w.heap.size + 1 := by omega
  generalize w.heap.size + 1 = MB at *
  have HB0 := Lib.hid hb0
  have HX0 := Lib.hid hx0
  have HM0 := Lib.hid hm0
  clear hx0 hm0
  have mq := box_cells HM0.out
  have m0 := mq 0
  have m1 := mq 1
  have m2 := mq 2
  have m3 := mq 3
  simp only [List.getElem?_toArray, List.getElem?_cons_zero, List.getElem?_cons_succ] at m0 m1 m2 m3
  clear mq
  go_cut [9] from 26 to 31 (fun y wx => ∃ (g c : Nat), y = .slice (some ⟨g, 0, none⟩) (N + 1) c ∧ Below W0.heap.size W0 wx ∧ RdsAt wx (.slice (some ⟨g, 0, none⟩) (N + 1) c) (l ++ [x]))
  case first =>
    have hd : Below W0.heap.size W0 W0.drew := (Below.refl _ _).drew
    have hsr := rds_src (Hv.out.below hb0)
    rw [HN.out] at hsr
    have Hsr := Lib.hid hsr
    clear hsr
    refine wp_region_noPanic ?_
    refine wp_region_pickA [1, 3] 5 (fun _ => true) (fun w' => Below W0.heap.size W0 w') (by kernel_rfl) (by kernel_rfl) (fun _ _ _ _ _ h => h) hd (fun hne => ?_)
    have n0 := fun y : Meets (fun w' => Below W0.heap.size W0 w') => cell_below y.property m0
    have n1 := fun y : Meets (fun w' => Below W0.heap.size W0 w') => cell_below y.property m1
    have n2 := fun y : Meets (fun w' => Below W0.heap.size W0 w') => cell_below y.property m2
    have n3 := fun y : Meets (fun w' => Below W0.heap.size W0 w') => cell_below y.property m3
    simp only [pick, pickN, List.filterMap_cons, List.filterMap_nil, List.getElem?_cons_zero, List.getElem?_cons_succ, Option.map_some]
    repeat (change wpQuiet _ _ _ _ (_ :: _) _; go_big_quiet_step (fail))
    refine wpQuiet_nil ?_
    clear n0 n1 n2 n3 hne m0 m1 m2 m3
    have hsrc : ∀ W : World, Below W0.heap.size W0 W → Src W Av N 4 (l.flatMap rdC) := fun W hW => by
      have h := rds_src ((Hv.out.below hb0).below hW)
      rw [HN.out] at h
      exact h
    have Hsrc := Lib.hid hsrc
    have hN6 : N * 32 ≤ 140737488351232 := hsm
    clear hsrc
    refine wpAnyF_name (fun W => Below W0.heap.size W0 W) hd (fun q0 hd0 => ?_)
    clear hd
    refine wpAnyF_two (i := 0) (j := 4) (by kernel_rfl) rfl rfl (fun K hK => ?_) (fun K hK => ?_)
    · go_simp
      have hE0 : (q0.alloc (.cells #[] 68)).ownsRow W0.heap.size 68 4 (.slice (some ⟨q0.heap.size, 0, none⟩) 0 0) 0 [] := own_mono (World.ownsRow_lit q0 #[] 0 (Nat.le_refl _) (by simp [maxLen]) (by simp)) hd0.size
      have hbE0 := hd0.alloc hd0.size (.cells #[] 68)
      refine hK.out _ _ (fun _ => hbE0) ?_
      clear hK K
      refine wpAnyF_name (fun V => V.ownsRow W0.heap.size 68 4 (.slice (some ⟨q0.heap.size, 0, none⟩) 0 0) 0 [] ∧ Below W0.heap.size W0 V ∧ q0.heap.size < V.heap.size) ⟨hE0, hbE0, by simp⟩ (fun q1 h1 => ?_)
      obtain ⟨hE, hbE, hsE⟩ := h1
      clear hE0 hbE0
      generalize q0.heap.size = g1 at *
      refine wpAnyF_two (i := 2) (j := 4) (by kernel_rfl) rfl rfl (fun K hK => ?_) (fun K hK => ?_)
      · refine step_append_src _ rfl (.tmp 26) (.tmp 27) 25 rfl W0.heap.size 68 i0 _ 4 32 Try.underlying25 hi0 hz0 hz1 hz2 rfl (by omega) _ 0 _ rfl hE Av N cv (l.flatMap rdC) rfl (Hsrc.out _ hbE) (rds_one l) (by unfold maxLen; omega) (by omega) hbE.size ?_
        intro A8 k8 w8 hown8 hg8 hat8
        have hb8 : Below W0.heap.size W0 w8 := below_grown hbE hg8 hbE.size hE (Nat.le_refl _)
        refine hK.out _ _ (fun _ => hb8) ?_
        clear hK K
        rw [Nat.zero_add] at hown8
        refine wpAnyF_one (i := 4) (by kernel_rfl) rfl (fun K hK => ?_)
        go_simp
        have hbC0 := hb8.alloc hb8.size (.cells (rdC x).toArray 68)
        refine hK.out _ _ (fun _ => hbC0) ?_
        clear hK K
        refine wpAnyF_name (fun V => V.heap[w8.heap.size]? = some (.cells (rdC x).toArray 68 (0, 0)) ∧ Below W0.heap.size W0 V ∧ V.ownsRow W0.heap.size 68 4 (.slice A8 N k8) N ([] ++ l.flatMap rdC)) ⟨heap_alloc_new w8 (.cells (rdC x).toArray 68), hbC0, hown8.alloc (.cells (rdC x).toArray 68)⟩ (fun q3 h1 => ?_)
        obtain ⟨hC, hbC, hoC⟩ := h1
        clear hbC0
        generalize w8.heap.size = g2 at *
        refine wpAnyF_one (i := 5) (by kernel_rfl) rfl (fun K hK => ?_)
        refine step_append_src _ rfl (.tmp 28) (.tmp 30) 25 rfl W0.heap.size 68 i0 _ 4 32 Try.underlying25 hi0 hz0 hz1 hz2 rfl (by omega) _ N _ rfl hoC (some ⟨g2, 0, none⟩) 1 1 (rdC x) rfl (src_box (xs := rdC x) hC rfl) (by simp [rdC, Value.oneCell']) (by unfold maxLen; omega) (by omega) hbC.size ?_
        intro A9 k9 w9 hown9 hg9 hat9
        have hb9 : Below W0.heap.size W0 w9 := below_grown hbC hg9 hbC.size hoC (Nat.le_refl _)
        refine hK.out _ _ (fun _ => hb9) ?_
        clear hK K
        refine wpAnyF_one (i := 6) (by kernel_rfl) rfl (fun K hK => ?_)
        go_simp
        refine hK.out _ _ (fun _ => hb9) ?_
        clear hK K
        refine wpAnyF_done (by kernel_rfl) ?_ _
        refine NoPanic.normal ?_
        try rw [Nat.zero_add] at hown9
        rcases hown9.2 with ⟨_, h0⟩ | ⟨g9, cap9, cur9, e9, _⟩
        · omega
        rw [Value.slice.injEq] at e9
        obtain ⟨rfl, _, rfl⟩ := e9
        have hr9 : RdsAt w9 (.slice (some ⟨g9, 0, none⟩) (N + 1) k9) (l ++ [x]) := by
          refine rds_own (base := W0.heap.size) (e := 68) (n := N + 1) ?_
          have : (l ++ [x]).flatMap rdC = [] ++ l.flatMap rdC ++ rdC x := by simp
          rw [this]
          exact hown9
        try rw [Nat.zero_add]
        go_wp2_with fail
        go_meet
        case rel => exact ⟨g9, k9, rfl, hb9, hr9⟩
      · go_simp
        have hbC0 := hbE.alloc hbE.size (.cells (rdC x).toArray 68)
        refine hK.out _ _ (fun _ => hbC0) ?_
        clear hK K
        refine wpAnyF_name (fun V => V.heap[q1.heap.size]? = some (.cells (rdC x).toArray 68 (0, 0)) ∧ Below W0.heap.size W0 V ∧ V.ownsRow W0.heap.size 68 4 (.slice (some ⟨g1, 0, none⟩) 0 0) 0 []) ⟨heap_alloc_new q1 (.cells (rdC x).toArray 68), hbC0, hE.alloc (.cells (rdC x).toArray 68)⟩ (fun q3 h1 => ?_)
        obtain ⟨hC, hbC, hoC⟩ := h1
        clear hbC0
        have hne2 : q1.heap.size ≠ g1 := by omega
        generalize q1.heap.size = g2 at *
        refine wpAnyF_one (i := 2) (by kernel_rfl) rfl (fun K hK => ?_)
        refine step_append_src _ rfl (.tmp 26) (.tmp 27) 25 rfl W0.heap.size 68 i0 _ 4 32 Try.underlying25 hi0 hz0 hz1 hz2 rfl (by omega) _ 0 _ rfl hoC Av N cv (l.flatMap rdC) rfl (Hsrc.out _ hbC) (rds_one l) (by unfold maxLen; omega) (by omega) hbC.size ?_
        intro A8 k8 w8 hown8 hg8 hat8
        have hb8 : Below W0.heap.size W0 w8 := below_grown hbC hg8 hbC.size hoC (Nat.le_refl _)
        refine hK.out _ _ (fun _ => hb8) ?_
        clear hK K
        have hC8 := (hg8.block g2 (Array.getElem?_eq_some_iff.1 hC).1 (fun e => by injection e with e; exact hne2 e)).trans hC
        refine wpAnyF_one (i := 5) (by kernel_rfl) rfl (fun K hK => ?_)
        refine step_append_src _ rfl (.tmp 28) (.tmp 30) 25 rfl W0.heap.size 68 i0 _ 4 32 Try.underlying25 hi0 hz0 hz1 hz2 rfl (by omega) _ (0 + N) _ rfl hown8 (some ⟨g2, 0, none⟩) 1 1 (rdC x) rfl (src_box (xs := rdC x) hC8 rfl) (by simp [rdC, Value.oneCell']) (by unfold maxLen; omega) (by omega) hb8.size ?_
        intro A9 k9 w9 hown9 hg9 hat9
        have hb9 : Below W0.heap.size W0 w9 := below_grown hb8 hg9 hb8.size hown8 (Nat.le_refl _)
        refine hK.out _ _ (fun _ => hb9) ?_
        clear hK K
        refine wpAnyF_one (i := 6) (by kernel_rfl) rfl (fun K hK => ?_)
        go_simp
        refine hK.out _ _ (fun _ => hb9) ?_
        clear hK K
        refine wpAnyF_done (by kernel_rfl) ?_ _
        refine NoPanic.normal ?_
        try rw [Nat.zero_add] at hown9
        rcases hown9.2 with ⟨_, h0⟩ | ⟨g9, cap9, cur9, e9, _⟩
        · omega
        rw [Value.slice.injEq] at e9
        obtain ⟨rfl, _, rfl⟩ := e9
        have hr9 : RdsAt w9 (.slice (some ⟨g9, 0, none⟩) (N + 1) k9) (l ++ [x]) := by
          refine rds_own (base := W0.heap.size) (e := 68) (n := N + 1) ?_
          have : (l ++ [x]).flatMap rdC = [] ++ l.flatMap rdC ++ rdC x := by simp
          rw [this]
          exact hown9
        try rw [Nat.zero_add]
        go_wp2_with fail
        go_meet
        case rel => exact ⟨g9, k9, rfl, hb9, hr9⟩
    · go_simp
      have hbC0 := hd0.alloc hd0.size (.cells (rdC x).toArray 68)
      refine hK.out _ _ (fun _ => hbC0) ?_
      clear hK K
      refine wpAnyF_name (fun V => V.heap[q0.heap.size]? = some (.cells (rdC x).toArray 68 (0, 0)) ∧ Below W0.heap.size W0 V) ⟨heap_alloc_new q0 (.cells (rdC x).toArray 68), hbC0⟩ (fun q2 h1 => ?_)
      obtain ⟨hC, hbC⟩ := h1
      clear hbC0
      generalize q0.heap.size = g2 at *
      refine wpAnyF_one (i := 0) (by kernel_rfl) rfl (fun K hK => ?_)
      go_simp
      have hE0 : (q2.alloc (.cells #[] 68)).ownsRow W0.heap.size 68 4 (.slice (some ⟨q2.heap.size, 0, none⟩) 0 0) 0 [] := own_mono (World.ownsRow_lit q2 #[] 0 (Nat.le_refl _) (by simp [maxLen]) (by simp)) hbC.size
      have hbE0 := hbC.alloc hbC.size (.cells #[] 68)
      refine hK.out _ _ (fun _ => hbE0) ?_
      clear hK K
      refine wpAnyF_name (fun V => V.ownsRow W0.heap.size 68 4 (.slice (some ⟨q2.heap.size, 0, none⟩) 0 0) 0 [] ∧ Below W0.heap.size W0 V ∧ q2.heap.size < V.heap.size ∧ V.heap[g2]? = some (.cells (rdC x).toArray 68 (0, 0))) ⟨hE0, hbE0, by simp, (Below.heap_alloc q2 (.cells #[] 68) g2 (Array.getElem?_eq_some_iff.1 hC).1).trans hC⟩ (fun q3 h1 => ?_)
      obtain ⟨hE, hbE, hsE, hCE⟩ := h1
      clear hE0 hbE0
      have hne2 : g2 ≠ q2.heap.size := by have h1 := (Array.getElem?_eq_some_iff.1 hC).1; omega
      generalize q2.heap.size = g1 at *
      refine wpAnyF_one (i := 2) (by kernel_rfl) rfl (fun K hK => ?_)
      refine step_append_src _ rfl (.tmp 26) (.tmp 27) 25 rfl W0.heap.size 68 i0 _ 4 32 Try.underlying25 hi0 hz0 hz1 hz2 rfl (by omega) _ 0 _ rfl hE Av N cv (l.flatMap rdC) rfl (Hsrc.out _ hbE) (rds_one l) (by unfold maxLen; omega) (by omega) hbE.size ?_
      intro A8 k8 w8 hown8 hg8 hat8
      have hb8 : Below W0.heap.size W0 w8 := below_grown hbE hg8 hbE.size hE (Nat.le_refl _)
      refine hK.out _ _ (fun _ => hb8) ?_
      clear hK K
      have hC8 := (hg8.block g2 (Array.getElem?_eq_some_iff.1 hCE).1 (fun e => by injection e with e; exact hne2 e)).trans hCE
      refine wpAnyF_one (i := 5) (by kernel_rfl) rfl (fun K hK => ?_)
      refine step_append_src _ rfl (.tmp 28) (.tmp 30) 25 rfl W0.heap.size 68 i0 _ 4 32 Try.underlying25 hi0 hz0 hz1 hz2 rfl (by omega) _ (0 + N) _ rfl hown8 (some ⟨g2, 0, none⟩) 1 1 (rdC x) rfl (src_box (xs := rdC x) hC8 rfl) (by simp [rdC, Value.oneCell']) (by unfold maxLen; omega) (by omega) hb8.size ?_
      intro A9 k9 w9 hown9 hg9 hat9
      have hb9 : Below W0.heap.size W0 w9 := below_grown hb8 hg9 hb8.size hown8 (Nat.le_refl _)
      refine hK.out _ _ (fun _ => hb9) ?_
      clear hK K
      refine wpAnyF_one (i := 6) (by kernel_rfl) rfl (fun K hK => ?_)
      go_simp
      refine hK.out _ _ (fun _ => hb9) ?_
      clear hK K
      refine wpAnyF_done (by kernel_rfl) ?_ _
      refine NoPanic.normal ?_
      try rw [Nat.zero_add] at hown9
      rcases hown9.2 with ⟨_, h0⟩ | ⟨g9, cap9, cur9, e9, _⟩
      · omega
      rw [Value.slice.injEq] at e9
      obtain ⟨rfl, _, rfl⟩ := e9
      have hr9 : RdsAt w9 (.slice (some ⟨g9, 0, none⟩) (N + 1) k9) (l ++ [x]) := by
        refine rds_own (base := W0.heap.size) (e := 68) (n := N + 1) ?_
        have : (l ++ [x]).flatMap rdC = [] ++ l.flatMap rdC ++ rdC x := by simp
        rw [this]
        exact hown9
      try rw [Nat.zero_add]
      go_wp2_with fail
      go_meet
      case rel => exact ⟨g9, k9, rfl, hb9, hr9⟩
  case rest =>
    obtain ⟨g, cx, rfl, hbc, hrx⟩ := hcut
    have Hrx := Lib.hid hrx
    clear hrx m0 m1 m2 m3
    clear hb0
    have HB1 := Lib.hid (HB0.out.trans (hbc.mono HB0.out.size))
    have HX1 := Lib.hid ((hbc.block _ (Array.getElem?_eq_some_iff.1 HX0.out).1).trans HX0.out)
    have HM0 := Lib.hid ((hbc.block _ (Array.getElem?_eq_some_iff.1 HM0.out).1).trans HM0.out)
    obtain ⟨X, hX⟩ : ∃ X, l ++ [x] = X := ⟨_, rfl⟩
    have hXl : X.length = N + 1 := by rw [← hX, List.length_append, HN.out]; rfl
    obtain ⟨NX, hNX⟩ : ∃ NX, N + 1 = NX := ⟨_, rfl⟩
    rw [hX, hNX] at Hrx
    rw [hNX] at hXl ⊢
    have HX := Lib.hid hX
    have HXl := Lib.hid hXl
    clear hX hXl hbc
    have aq := box_cells HX1.out
    have a0 := aq 0
    have a1 := aq 1
    have a2 := aq 2
    have a3 := aq 3
    have a4 := aq 4
    simp only [List.getElem?_toArray, List.getElem?_cons_zero, List.getElem?_cons_succ] at a0 a1 a2 a3 a4
    clear aq
    go_wp2_with fail
    refine (ready_any t a b c _ l _ (HT.out.below HB1.out) (Hv.out.below HB1.out)).mono ?_
    rintro e w1 ⟨rfl, hb1⟩
    clear a0 a1 a2 a3 a4
    have HB2 := Lib.hid (HB1.out.trans (hb1.mono HB1.out.size))
    have HX2 := Lib.hid ((hb1.block _ (Array.getElem?_eq_some_iff.1 HX1.out).1).trans HX1.out)
    have Hrx := Lib.hid (Hrx.out.below hb1)
    have HM0 := Lib.hid ((hb1.block _ (Array.getElem?_eq_some_iff.1 HM0.out).1).trans HM0.out)
    clear hb1
    cases hre : readyB t l with
    | false =>
      clear hre
      go_wp2_with fail
      refine (awake_any _).mono ?_
      rintro e wz3 ⟨rfl, hbz3⟩
      go_wp2
      go_ret
      exact ⟨rfl, HB2.out.trans (hbz3.mono HB2.out.size)⟩
    | true =>
      obtain ⟨hth, h20, hz⟩ := ready_iff.1 hre
      rw [HN.out] at h20
      have Hth := Lib.hid hth
      have Hz := Lib.hid hz
      clear hre hth hz
      have aq := box_cells HX2.out
      have a0 := aq 0
      have a1 := aq 1
      have a2 := aq 2
      have a3 := aq 3
      have a4 := aq 4
      simp only [List.getElem?_toArray, List.getElem?_cons_zero, List.getElem?_cons_succ] at a0 a1 a2 a3 a4
      clear aq
      go_wp2_with fail
      refine (ready_any t a b c _ X _ (HT.out.below HB2.out) Hrx.out).mono ?_
      rintro e w2 ⟨rfl, hb2⟩
      clear a0 a1 a2 a3 a4
      have HB4 := Lib.hid (HB2.out.trans (hb2.mono HB2.out.size))
      have HX4 := Lib.hid ((hb2.block _ (Array.getElem?_eq_some_iff.1 HX2.out).1).trans HX2.out)
      have Hrx := Lib.hid (Hrx.out.below hb2)
      have HM0 := Lib.hid ((hb2.block _ (Array.getElem?_eq_some_iff.1 HM0.out).1).trans HM0.out)
      clear hb2
      cases hre : readyB t X with
      | false =>
        clear hre
        go_wp2_with fail
        refine (awake_any _).mono ?_
        rintro e wz5 ⟨rfl, hbz5⟩
        go_wp2
        go_ret
        exact ⟨rfl, HB4.out.trans (hbz5.mono HB4.out.size)⟩
      | true =>
        obtain ⟨_, hX20, hzX⟩ := ready_iff.1 hre
        rw [HXl.out] at hX20
        have HzX := Lib.hid hzX
        have HmX := Lib.hid (show ∀ r, r ∈ X ↔ r ∈ l ∨ r = x from fun r => by rw [← HX.out, List.mem_append, List.mem_singleton])
        have Hz1 := Lib.hid (ridesF_sub (m := [x]) hzX fun r hr => (HmX.out r).2 (.inr (List.mem_singleton.1 hr)))
        clear hre hzX
        have aq := box_cells HX4.out
        have a0 := aq 0
        have a1 := aq 1
        have a2 := aq 2
        have a3 := aq 3
        have a4 := aq 4
        simp only [List.getElem?_toArray, List.getElem?_cons_zero, List.getElem?_cons_succ] at a0 a1 a2 a3 a4
        clear aq
        go_wp2_with fail
        refine (Tariff_law t a b c _ (HT.out.below HB4.out) Hth.out).mono ?_
        rintro e xa6 ⟨pa6, pb6, pc6, rfl, hT6, hxa6⟩
        clear a0 a1 a2 a3 a4
        have HB7 := Lib.hid (HB4.out.trans (hxa6.mono HB4.out.size))
        have HX7 := Lib.hid ((hxa6.block _ (Array.getElem?_eq_some_iff.1 HX4.out).1).trans HX4.out)
        have Hrx := Lib.hid (Hrx.out.below hxa6)
        have HM0 := Lib.hid ((hxa6.block _ (Array.getElem?_eq_some_iff.1 HM0.out).1).trans HM0.out)
        go_wp2_with fail
        refine (Rides_law _ _ _ (Hv.out.below HB7.out) (by have := HN.out; omega)).mono ?_
        rintro e xb6 ⟨pA6, pk6, rfl, hr6, hxb6⟩
        have hT6 := hT6.below hxb6
        have HB8 := Lib.hid (HB7.out.trans (hxb6.mono HB7.out.size))
        have HX8 := Lib.hid ((hxb6.block _ (Array.getElem?_eq_some_iff.1 HX7.out).1).trans HX7.out)
        have Hrx := Lib.hid (Hrx.out.below hxb6)
        have HM0 := Lib.hid ((hxb6.block _ (Array.getElem?_eq_some_iff.1 HM0.out).1).trans HM0.out)
        go_wp2_with fail
        refine (Tickets_any t pa6 pb6 pc6 _ l _ hT6 hr6 (by have := HN.out; omega)).mono ?_
        rintro e xc6 ⟨hxc6, _, hg6⟩
        obtain ⟨TA6, Tk6, rfl, _⟩ := hg6 Hz.out
        obtain ⟨p6, hp6⟩ : ∃ p, (chargeT t (onceL l)).1 = p := ⟨_, rfl⟩
        rw [hp6]
        generalize (chargeT t (onceL l)).2.length = tn6
        have Hp6 := Lib.hid hp6
        clear hg6 hp6 hT6 hr6
        have HB9 := Lib.hid (HB8.out.trans (hxc6.mono HB8.out.size))
        have HX9 := Lib.hid ((hxc6.block _ (Array.getElem?_eq_some_iff.1 HX8.out).1).trans HX8.out)
        have Hrx := Lib.hid (Hrx.out.below hxc6)
        have HM0 := Lib.hid ((hxc6.block _ (Array.getElem?_eq_some_iff.1 HM0.out).1).trans HM0.out)
        clear hxc6
        have aq := box_cells HX9.out
        have a0 := aq 0
        have a1 := aq 1
        have a2 := aq 2
        have a3 := aq 3
        have a4 := aq 4
        simp only [List.getElem?_toArray, List.getElem?_cons_zero, List.getElem?_cons_succ] at a0 a1 a2 a3 a4
        clear aq
        go_wp2_with fail
        refine (Tariff_law t a b c _ (HT.out.below HB9.out) Hth.out).mono ?_
        rintro e xa10 ⟨pa10, pb10, pc10, rfl, hT10, hxa10⟩
        clear a0 a1 a2 a3 a4
        have HB11 := Lib.hid (HB9.out.trans (hxa10.mono HB9.out.size))
        have HX11 := Lib.hid ((hxa10.block _ (Array.getElem?_eq_some_iff.1 HX9.out).1).trans HX9.out)
        have Hrx := Lib.hid (Hrx.out.below hxa10)
        have HM0 := Lib.hid ((hxa10.block _ (Array.getElem?_eq_some_iff.1 HM0.out).1).trans HM0.out)
        go_wp2_with fail
        refine (Rides_law _ _ _ (Hrx.out) (by have := HXl.out; omega)).mono ?_
        rintro e xb10 ⟨pA10, pk10, rfl, hr10, hxb10⟩
        have hT10 := hT10.below hxb10
        have HB12 := Lib.hid (HB11.out.trans (hxb10.mono HB11.out.size))
        have HX12 := Lib.hid ((hxb10.block _ (Array.getElem?_eq_some_iff.1 HX11.out).1).trans HX11.out)
        have Hrx := Lib.hid (Hrx.out.below hxb10)
        have HM0 := Lib.hid ((hxb10.block _ (Array.getElem?_eq_some_iff.1 HM0.out).1).trans HM0.out)
        go_wp2_with fail
        refine (Tickets_any t pa10 pb10 pc10 _ X _ hT10 hr10 (by have := HXl.out; omega)).mono ?_
        rintro e xc10 ⟨hxc10, _, hg10⟩
        obtain ⟨TA10, Tk10, rfl, _⟩ := hg10 HzX.out
        obtain ⟨p10, hp10⟩ : ∃ p, (chargeT t (onceL X)).1 = p := ⟨_, rfl⟩
        rw [hp10]
        generalize (chargeT t (onceL X)).2.length = tn10
        have Hp10 := Lib.hid hp10
        clear hg10 hp10 hT10 hr10
        have HB13 := Lib.hid (HB12.out.trans (hxc10.mono HB12.out.size))
        have HX13 := Lib.hid ((hxc10.block _ (Array.getElem?_eq_some_iff.1 HX12.out).1).trans HX12.out)
        have Hrx := Lib.hid (Hrx.out.below hxc10)
        have HM0 := Lib.hid ((hxc10.block _ (Array.getElem?_eq_some_iff.1 HM0.out).1).trans HM0.out)
        clear hxc10
        have aq := box_cells HX13.out
        have a0 := aq 0
        have a1 := aq 1
        have a2 := aq 2
        have a3 := aq 3
        have a4 := aq 4
        simp only [List.getElem?_toArray, List.getElem?_cons_zero, List.getElem?_cons_succ] at a0 a1 a2 a3 a4
        clear aq
        have mq := box_cells HM0.out
        have m0 := mq 0
        have m1 := mq 1
        have m2 := mq 2
        have m3 := mq 3
        simp only [List.getElem?_toArray, List.getElem?_cons_zero, List.getElem?_cons_succ] at m0 m1 m2 m3
        clear mq
        go_upto_region 6 with (fail)
        refine wp_region_noPanic ?_
        refine wp_region_phS [([0, 2], [1, 3, 4, 5]), ([6, 7, 8, 9], [10, 11, 12])] (fun _ => true) (fun w' => Below xc10.heap.size xc10 w') (by kernel_rfl) (by kernel_rfl) (fun _ _ _ _ _ h => h) ?_
        have hd : Below xc10.heap.size xc10 xc10.drew := (Below.refl _ _).drew
        have Acc0 := Lib.hid hd
        obtain ⟨wd, hwd⟩ : ∃ V, V = xc10.drew := ⟨_, rfl⟩
        rw [← hwd] at hd Acc0 ⊢
        clear hwd hd
        refine wpPhS_cons Acc0.out (fun hne => ?_)
        have n0 := fun y : Meets (fun w' => Below xc10.heap.size xc10 w') => cell_below y.property a0
        have n1 := fun y : Meets (fun w' => Below xc10.heap.size xc10 w') => cell_below y.property a1
        have n2 := fun y : Meets (fun w' => Below xc10.heap.size xc10 w') => cell_below y.property a2
        have n3 := fun y : Meets (fun w' => Below xc10.heap.size xc10 w') => cell_below y.property a3
        have n4 := fun y : Meets (fun w' => Below xc10.heap.size xc10 w') => cell_below y.property a4
        have n5 := fun y : Meets (fun w' => Below xc10.heap.size xc10 w') => cell_below y.property m0
        have n6 := fun y : Meets (fun w' => Below xc10.heap.size xc10 w') => cell_below y.property m1
        have n7 := fun y : Meets (fun w' => Below xc10.heap.size xc10 w') => cell_below y.property m2
        have n8 := fun y : Meets (fun w' => Below xc10.heap.size xc10 w') => cell_below y.property m3
        simp only [pick, pickN, List.filterMap_cons, List.filterMap_nil, List.getElem?_cons_zero, List.getElem?_cons_succ, Option.map_some]
        repeat (change wpQuiet _ _ _ _ (_ :: _) _; go_big_quiet_step (fail))
        refine wpQuiet_nil ?_
        clear n0 n1 n2 n3 n4 n5 n6 n7 n8 hne
        refine wpSeqK_step (fun K hK => ?_)
        go_simp
        refine (Tariff_law t a b c _ (HT.out.below (HB13.out.trans (Acc0.out.mono HB13.out.size))) Hth.out).mono ?_
        rintro e wq1 ⟨pa9, pb9, pc9, rfl, hT9, hq1⟩
        have Acc1 := Lib.hid (Acc0.out.trans (hq1.mono Acc0.out.size))

        refine hK.out _ _ (fun _ => Acc1.out) ?_
        clear hK K hq1
        refine wpSeqK_step (fun K hK => ?_)
        go_simp
        refine (ride_law x _).mono ?_
        rintro e wq2 ⟨rfl, hq2⟩
        have Acc2 := Lib.hid (Acc1.out.trans (hq2.mono Acc1.out.size))
        have hT9 := hT9.below hq2
        refine hK.out _ _ (fun _ => Acc2.out) ?_
        clear hK K hq2
        refine wpSeqK_step (fun K hK => ?_)
        go_simp
        have hC0 := rds_single wq2 x 70
        have hb0 := Acc2.out.alloc Acc2.out.size (.cells (rdC x).toArray 70)
        refine hK.out _ _ (fun _ => hb0) ?_
        clear hK K
        have hT9 := hT9.below ((Below.refl wq2.heap.size wq2).alloc (Nat.le_refl _) (.cells (rdC x).toArray 70))
        have Acc9 := Lib.hid hb0
        clear hb0
        refine wpSeqK_step (fun K hK => ?_)
        go_simp
        refine (Tickets_any t pa9 pb9 pc9 _ [x] _ hT9 hC0 (by simp)).mono ?_
        rintro e wq3 ⟨hq3, _, hg⟩
        obtain ⟨TAx, Tkx, rfl, _⟩ := hg Hz1.out
        obtain ⟨qx, hqx⟩ : ∃ p, (chargeT t (onceL [x])).1 = p := ⟨_, rfl⟩
        rw [hqx]
        generalize (chargeT t (onceL [x])).2.length = tnx
        have Hqx := Lib.hid hqx
        have Acc3 := Lib.hid (Acc9.out.trans (hq3.mono Acc9.out.size))
        refine hK.out _ _ (fun _ => Acc3.out) ?_
        clear hK K hg hqx hq3 hT9
        refine wpSeqK_nil ?_
        refine wpPhS_cons Acc3.out (fun hne => ?_)
        have n0 := fun y : Meets (fun w' => Below xc10.heap.size xc10 w') => cell_below y.property a0
        have n1 := fun y : Meets (fun w' => Below xc10.heap.size xc10 w') => cell_below y.property a1
        have n2 := fun y : Meets (fun w' => Below xc10.heap.size xc10 w') => cell_below y.property a2
        have n3 := fun y : Meets (fun w' => Below xc10.heap.size xc10 w') => cell_below y.property a3
        have n4 := fun y : Meets (fun w' => Below xc10.heap.size xc10 w') => cell_below y.property a4
        have n5 := fun y : Meets (fun w' => Below xc10.heap.size xc10 w') => cell_below y.property m0
        have n6 := fun y : Meets (fun w' => Below xc10.heap.size xc10 w') => cell_below y.property m1
        have n7 := fun y : Meets (fun w' => Below xc10.heap.size xc10 w') => cell_below y.property m2
        have n8 := fun y : Meets (fun w' => Below xc10.heap.size xc10 w') => cell_below y.property m3
        simp only [pick, pickN, List.filterMap_cons, List.filterMap_nil, List.getElem?_cons_zero, List.getElem?_cons_succ, Option.map_some]
        repeat (change wpQuiet _ _ _ _ (_ :: _) _; go_big_quiet_step (fail))
        refine wpQuiet_nil ?_
        clear n0 n1 n2 n3 n4 n5 n6 n7 n8 hne
        refine wpSeqK_step (fun K hK => ?_)
        go_simp
        refine hK.out _ _ (fun _ => Acc3.out) ?_
        clear hK K
        refine wpSeqK_step (fun K hK => ?_)
        go_simp
        refine hK.out _ _ (fun _ => Acc3.out) ?_
        clear hK K
        refine wpSeqK_step (fun K hK => ?_)
        go_simp
        refine hK.out _ _ (fun _ => Acc3.out) ?_
        clear hK K
        refine wpSeqK_nil ?_
        refine wpPhS_nil ?_
        refine NoPanic.normal ?_
        clear a0 a1 a2 a3 a4
        clear m0 m1 m2 m3
        have HB14 := Lib.hid (HB13.out.trans (Acc3.out.mono HB13.out.size))
        have HX14 := Lib.hid ((Acc3.out.block _ (Array.getElem?_eq_some_iff.1 HX13.out).1).trans HX13.out)
        have Hrx := Lib.hid (Hrx.out.below Acc3.out)
        have HM0 := Lib.hid ((Acc3.out.block _ (Array.getElem?_eq_some_iff.1 HM0.out).1).trans HM0.out)
        clear hC0
        have hpa := price_bd2 Hz.out
        have hpb := price_bd2 HzX.out
        have hpo := price_bd2 Hz1.out
        have ea : priceL t l = p6 := Hp6.out
        have eb : priceL t X = p10 := Hp10.out
        have eo : priceL t [x] = qx := Hqx.out
        rw [ea] at hpa
        rw [eb] at hpb
        rw [eo] at hpo
        have hm1 := least_mono (price_least Hz.out) (price_least HzX.out) (fun r hr => (HmX.out r).2 (.inl hr))
        have hm2 := least_join (price_least Hz.out) (price_least Hz1.out) (price_least HzX.out) (fun r hr => by
          rcases (HmX.out r).1 hr with h | h
          · exact .inl h
          · exact .inr (by simp [h]))
        rw [ea, eb] at hm1
        rw [ea, eb, eo] at hm2
        have g1 : decide (p10 < p6) = false := decide_eq_false (by omega)
        have gw : IntKind.i64.wrap (p6 + qx) = p6 + qx := IntWalk.i64_in _ (by omega)
        have g2 : decide (p6 + qx < p10) = false := decide_eq_false (by omega)
        have dv1 : IntKind.i64.wrap (n1 : Int) = (n1 : Int) := IntWalk.i64_in _ (by omega)
        have ew1 : IntKind.i64.wrap ((NX : Int) + 1) = (NX : Int) + 1 := IntWalk.i64_in _ (by omega)
        obtain ⟨k, hk⟩ : ∃ k, n1 % (NX + 1) = k := ⟨_, rfl⟩
        have hkl : k ≤ NX := by have := Nat.mod_lt n1 (show 0 < NX + 1 by omega); omega
        have ez : ¬ ((NX : Int) + 1 = 0) := by omega
        have er : Int.tmod (n1 : Int) ((NX : Int) + 1) = (k : Int) := by rw [Int.tmod_eq_emod_of_nonneg (by omega), ← hk]; rfl
        have ew : IntKind.i64.wrap (k : Int) = (k : Int) := IntWalk.i64_in _ (by omega)
        obtain ⟨_, _, ecx, hcx, _⟩ := Hrx.out.form
        have hcx2 : NX ≤ cx := by have := HXl.out; cases ecx; omega
        have ikc : (k : Int) ≤ (cx : Int) := by omega
        have ikn : (k : Int) ≤ (NX : Int) := by omega
        have ik0 : (0 : Int) ≤ (k : Int) := by omega
        have HzT := Lib.hid (ridesF_sub (m := X.take k) HzX.out fun r hr => List.mem_of_mem_take hr)
        have HzD := Lib.hid (ridesF_sub (m := X.drop k) HzX.out fun r hr => List.mem_of_mem_drop hr)
        clear ecx hk ea eb eo hm1 hm2
        obtain ⟨YT, hYT⟩ : ∃ Y, X.take k = Y := ⟨_, rfl⟩
        obtain ⟨YD, hYD⟩ : ∃ Y, X.drop k = Y := ⟨_, rfl⟩
        rw [hYT] at HzT
        rw [hYD] at HzD
        have HYT := Lib.hid hYT
        have HYD := Lib.hid hYD
        clear hYT hYD
        obtain ⟨wy, hwy⟩ : ∃ W, W = wq3 := ⟨_, rfl⟩
        rw [← hwy] at HB14 HX14 HM0 Hrx ⊢
        clear hwy
        have hrT := RdsAt.take Hrx.out hkl
        rw [HYT.out] at hrT
        have hYl : YT.length = k := by rw [← HYT.out, List.length_take]; have := HXl.out; omega
        have HYl := Lib.hid hYl
        clear hYl
        have aq := box_cells HX14.out
        have a0 := aq 0
        have a1 := aq 1
        have a2 := aq 2
        have a3 := aq 3
        have a4 := aq 4
        simp only [List.getElem?_toArray, List.getElem?_cons_zero, List.getElem?_cons_succ] at a0 a1 a2 a3 a4
        clear aq
        have mq := box_cells HM0.out
        have m0 := mq 0
        have m1 := mq 1
        have m2 := mq 2
        have m3 := mq 3
        simp only [List.getElem?_toArray, List.getElem?_cons_zero, List.getElem?_cons_succ] at m0 m1 m2 m3
        clear mq
        go_upto_region 10 with (fail)
        refine wp_region_noPanic ?_
        refine wp_region_phS [([0, 2, 3, 4], [1, 5, 6]), ([7, 8, 9, 10], [11, 12, 13])] (fun _ => true) (fun w' => Below wy.heap.size wy w') (by kernel_rfl) (by kernel_rfl) (fun _ _ _ _ _ h => h) ?_
        have hd : Below wy.heap.size wy wy.drew := (Below.refl _ _).drew
        have Acc0 := Lib.hid hd
        obtain ⟨wd, hwd⟩ : ∃ V, V = wy.drew := ⟨_, rfl⟩
        rw [← hwd] at hd Acc0 ⊢
        clear hwd hd
        refine wpPhS_cons Acc0.out (fun hne => ?_)
        have n0 := fun y : Meets (fun w' => Below wy.heap.size wy w') => cell_below y.property a0
        have n1 := fun y : Meets (fun w' => Below wy.heap.size wy w') => cell_below y.property a1
        have n2 := fun y : Meets (fun w' => Below wy.heap.size wy w') => cell_below y.property a2
        have n3 := fun y : Meets (fun w' => Below wy.heap.size wy w') => cell_below y.property a3
        have n4 := fun y : Meets (fun w' => Below wy.heap.size wy w') => cell_below y.property a4
        have n5 := fun y : Meets (fun w' => Below wy.heap.size wy w') => cell_below y.property m0
        have n6 := fun y : Meets (fun w' => Below wy.heap.size wy w') => cell_below y.property m1
        have n7 := fun y : Meets (fun w' => Below wy.heap.size wy w') => cell_below y.property m2
        have n8 := fun y : Meets (fun w' => Below wy.heap.size wy w') => cell_below y.property m3
        simp only [pick, pickN, List.filterMap_cons, List.filterMap_nil, List.getElem?_cons_zero, List.getElem?_cons_succ, Option.map_some]
        repeat (change wpQuiet _ _ _ _ (_ :: _) _; go_big_quiet_step (fail))
        refine wpQuiet_nil ?_
        clear n0 n1 n2 n3 n4 n5 n6 n7 n8 hne
        refine wpSeqK_step (fun K hK => ?_)
        go_simp
        refine (Tariff_law t a b c _ (HT.out.below (HB14.out.trans (Acc0.out.mono HB14.out.size))) Hth.out).mono ?_
        rintro e wq1 ⟨pa9, pb9, pc9, rfl, hT9, hq1⟩
        have Acc1 := Lib.hid (Acc0.out.trans (hq1.mono Acc0.out.size))

        refine hK.out _ _ (fun _ => Acc1.out) ?_
        clear hK K hq1
        refine wpSeqK_step (fun K hK => ?_)
        go_simp
        refine (Rides_law _ YT _ (hrT.below Acc1.out) (by rw [HYl.out]; omega)).mono ?_
        rintro e wq2 ⟨pA9, pk9, rfl, hr9, hq2⟩
        have Acc2 := Lib.hid (Acc1.out.trans (hq2.mono Acc1.out.size))
        have hT9 := hT9.below hq2
        refine hK.out _ _ (fun _ => Acc2.out) ?_
        clear hK K hq2
        refine wpSeqK_step (fun K hK => ?_)
        go_simp
        refine (Tickets_any t pa9 pb9 pc9 _ YT _ hT9 hr9 (by rw [HYl.out]; omega)).mono ?_
        rintro e wq3 ⟨hq3, _, hg⟩
        obtain ⟨TAt, Tkt, rfl, _⟩ := hg HzT.out
        obtain ⟨qt, hqt⟩ : ∃ p, (chargeT t (onceL YT)).1 = p := ⟨_, rfl⟩
        rw [hqt]
        generalize (chargeT t (onceL YT)).2.length = tnt
        have Hqt := Lib.hid hqt
        have Acc3 := Lib.hid (Acc2.out.trans (hq3.mono Acc2.out.size))
        refine hK.out _ _ (fun _ => Acc3.out) ?_
        clear hK K hg hqt hq3 hT9
        refine wpSeqK_nil ?_
        refine wpPhS_cons Acc3.out (fun hne => ?_)
        have n0 := fun y : Meets (fun w' => Below wy.heap.size wy w') => cell_below y.property a0
        have n1 := fun y : Meets (fun w' => Below wy.heap.size wy w') => cell_below y.property a1
        have n2 := fun y : Meets (fun w' => Below wy.heap.size wy w') => cell_below y.property a2
        have n3 := fun y : Meets (fun w' => Below wy.heap.size wy w') => cell_below y.property a3
        have n4 := fun y : Meets (fun w' => Below wy.heap.size wy w') => cell_below y.property a4
        have n5 := fun y : Meets (fun w' => Below wy.heap.size wy w') => cell_below y.property m0
        have n6 := fun y : Meets (fun w' => Below wy.heap.size wy w') => cell_below y.property m1
        have n7 := fun y : Meets (fun w' => Below wy.heap.size wy w') => cell_below y.property m2
        have n8 := fun y : Meets (fun w' => Below wy.heap.size wy w') => cell_below y.property m3
        simp only [pick, pickN, List.filterMap_cons, List.filterMap_nil, List.getElem?_cons_zero, List.getElem?_cons_succ, Option.map_some]
        repeat (change wpQuiet _ _ _ _ (_ :: _) _; go_big_quiet_step (fail))
        refine wpQuiet_nil ?_
        clear n0 n1 n2 n3 n4 n5 n6 n7 n8 hne
        refine wpSeqK_step (fun K hK => ?_)
        go_simp
        refine hK.out _ _ (fun _ => Acc3.out) ?_
        clear hK K
        refine wpSeqK_step (fun K hK => ?_)
        go_simp
        refine hK.out _ _ (fun _ => Acc3.out) ?_
        clear hK K
        refine wpSeqK_step (fun K hK => ?_)
        go_simp
        refine hK.out _ _ (fun _ => Acc3.out) ?_
        clear hK K
        refine wpSeqK_nil ?_
        refine wpPhS_nil ?_
        refine NoPanic.normal ?_
        clear a0 a1 a2 a3 a4
        clear m0 m1 m2 m3
        have HB15 := Lib.hid (HB14.out.trans (Acc3.out.mono HB14.out.size))
        have HX15 := Lib.hid ((Acc3.out.block _ (Array.getElem?_eq_some_iff.1 HX14.out).1).trans HX14.out)
        have Hrx := Lib.hid (Hrx.out.below Acc3.out)
        have HM0 := Lib.hid ((Acc3.out.block _ (Array.getElem?_eq_some_iff.1 HM0.out).1).trans HM0.out)
        clear hr9 hrT
        obtain ⟨wz16, hwz16⟩ : ∃ W, W = wq3 := ⟨_, rfl⟩
        rw [← hwz16] at HB15 HX15 HM0 Hrx ⊢
        clear hwz16
        have hrT := RdsAt.drop0 Hrx.out hkl
        rw [HYD.out] at hrT
        have hYl2 : YD.length = NX - k := by rw [← HYD.out, List.length_drop]; have := HXl.out; omega
        have HYl2 := Lib.hid hYl2
        clear hYl2
        have hcc : (cx : Int) - (k : Int) = ((cx - k : Nat) : Int) := by omega
        have hnn : (NX : Int) - (k : Int) = ((NX - k : Nat) : Int) := by omega
        have aq := box_cells HX15.out
        have a0 := aq 0
        have a1 := aq 1
        have a2 := aq 2
        have a3 := aq 3
        have a4 := aq 4
        simp only [List.getElem?_toArray, List.getElem?_cons_zero, List.getElem?_cons_succ] at a0 a1 a2 a3 a4
        clear aq
        have mq := box_cells HM0.out
        have m0 := mq 0
        have m1 := mq 1
        have m2 := mq 2
        have m3 := mq 3
        simp only [List.getElem?_toArray, List.getElem?_cons_zero, List.getElem?_cons_succ] at m0 m1 m2 m3
        clear mq
        go_upto_region 11 with (fail)
        refine wp_region_noPanic ?_
        refine wp_region_phS [([0, 2, 3, 4], [1, 5, 6]), ([7, 8, 9, 10], [11, 12, 13])] (fun _ => true) (fun w' => Below wz16.heap.size wz16 w') (by kernel_rfl) (by kernel_rfl) (fun _ _ _ _ _ h => h) ?_
        have hd : Below wz16.heap.size wz16 wz16.drew := (Below.refl _ _).drew
        have Acc0 := Lib.hid hd
        obtain ⟨wd, hwd⟩ : ∃ V, V = wz16.drew := ⟨_, rfl⟩
        rw [← hwd] at hd Acc0 ⊢
        clear hwd hd
        refine wpPhS_cons Acc0.out (fun hne => ?_)
        have n0 := fun y : Meets (fun w' => Below wz16.heap.size wz16 w') => cell_below y.property a0
        have n1 := fun y : Meets (fun w' => Below wz16.heap.size wz16 w') => cell_below y.property a1
        have n2 := fun y : Meets (fun w' => Below wz16.heap.size wz16 w') => cell_below y.property a2
        have n3 := fun y : Meets (fun w' => Below wz16.heap.size wz16 w') => cell_below y.property a3
        have n4 := fun y : Meets (fun w' => Below wz16.heap.size wz16 w') => cell_below y.property a4
        have n5 := fun y : Meets (fun w' => Below wz16.heap.size wz16 w') => cell_below y.property m0
        have n6 := fun y : Meets (fun w' => Below wz16.heap.size wz16 w') => cell_below y.property m1
        have n7 := fun y : Meets (fun w' => Below wz16.heap.size wz16 w') => cell_below y.property m2
        have n8 := fun y : Meets (fun w' => Below wz16.heap.size wz16 w') => cell_below y.property m3
        simp only [pick, pickN, List.filterMap_cons, List.filterMap_nil, List.getElem?_cons_zero, List.getElem?_cons_succ, Option.map_some]
        repeat (change wpQuiet _ _ _ _ (_ :: _) _; go_big_quiet_step (fail))
        refine wpQuiet_nil ?_
        clear n0 n1 n2 n3 n4 n5 n6 n7 n8 hne
        refine wpSeqK_step (fun K hK => ?_)
        go_simp
        refine (Tariff_law t a b c _ (HT.out.below (HB15.out.trans (Acc0.out.mono HB15.out.size))) Hth.out).mono ?_
        rintro e wq1 ⟨pa9, pb9, pc9, rfl, hT9, hq1⟩
        have Acc1 := Lib.hid (Acc0.out.trans (hq1.mono Acc0.out.size))

        refine hK.out _ _ (fun _ => Acc1.out) ?_
        clear hK K hq1
        refine wpSeqK_step (fun K hK => ?_)
        go_simp
        refine (Rides_law _ YD _ (hrT.below Acc1.out) (by rw [HYl2.out]; omega)).mono ?_
        rintro e wq2 ⟨pA9, pk9, rfl, hr9, hq2⟩
        have Acc2 := Lib.hid (Acc1.out.trans (hq2.mono Acc1.out.size))
        have hT9 := hT9.below hq2
        refine hK.out _ _ (fun _ => Acc2.out) ?_
        clear hK K hq2
        refine wpSeqK_step (fun K hK => ?_)
        go_simp
        refine (Tickets_any t pa9 pb9 pc9 _ YD _ hT9 hr9 (by rw [HYl2.out]; omega)).mono ?_
        rintro e wq3 ⟨hq3, _, hg⟩
        obtain ⟨TAd, Tkd, rfl, _⟩ := hg HzD.out
        obtain ⟨qd, hqd⟩ : ∃ p, (chargeT t (onceL YD)).1 = p := ⟨_, rfl⟩
        rw [hqd]
        generalize (chargeT t (onceL YD)).2.length = tnd
        have Hqd := Lib.hid hqd
        have Acc3 := Lib.hid (Acc2.out.trans (hq3.mono Acc2.out.size))
        refine hK.out _ _ (fun _ => Acc3.out) ?_
        clear hK K hg hqd hq3 hT9
        refine wpSeqK_nil ?_
        refine wpPhS_cons Acc3.out (fun hne => ?_)
        have n0 := fun y : Meets (fun w' => Below wz16.heap.size wz16 w') => cell_below y.property a0
        have n1 := fun y : Meets (fun w' => Below wz16.heap.size wz16 w') => cell_below y.property a1
        have n2 := fun y : Meets (fun w' => Below wz16.heap.size wz16 w') => cell_below y.property a2
        have n3 := fun y : Meets (fun w' => Below wz16.heap.size wz16 w') => cell_below y.property a3
        have n4 := fun y : Meets (fun w' => Below wz16.heap.size wz16 w') => cell_below y.property a4
        have n5 := fun y : Meets (fun w' => Below wz16.heap.size wz16 w') => cell_below y.property m0
        have n6 := fun y : Meets (fun w' => Below wz16.heap.size wz16 w') => cell_below y.property m1
        have n7 := fun y : Meets (fun w' => Below wz16.heap.size wz16 w') => cell_below y.property m2
        have n8 := fun y : Meets (fun w' => Below wz16.heap.size wz16 w') => cell_below y.property m3
        simp only [pick, pickN, List.filterMap_cons, List.filterMap_nil, List.getElem?_cons_zero, List.getElem?_cons_succ, Option.map_some]
        repeat (change wpQuiet _ _ _ _ (_ :: _) _; go_big_quiet_step (fail))
        refine wpQuiet_nil ?_
        clear n0 n1 n2 n3 n4 n5 n6 n7 n8 hne
        refine wpSeqK_step (fun K hK => ?_)
        go_simp
        refine hK.out _ _ (fun _ => Acc3.out) ?_
        clear hK K
        refine wpSeqK_step (fun K hK => ?_)
        go_simp
        refine hK.out _ _ (fun _ => Acc3.out) ?_
        clear hK K
        refine wpSeqK_step (fun K hK => ?_)
        go_simp
        refine hK.out _ _ (fun _ => Acc3.out) ?_
        clear hK K
        refine wpSeqK_nil ?_
        refine wpPhS_nil ?_
        refine NoPanic.normal ?_
        clear a0 a1 a2 a3 a4
        clear m0 m1 m2 m3
        have HB17 := Lib.hid (HB15.out.trans (Acc3.out.mono HB15.out.size))
        have HX17 := Lib.hid ((Acc3.out.block _ (Array.getElem?_eq_some_iff.1 HX15.out).1).trans HX15.out)
        have Hrx := Lib.hid (Hrx.out.below Acc3.out)
        have HM0 := Lib.hid ((Acc3.out.block _ (Array.getElem?_eq_some_iff.1 HM0.out).1).trans HM0.out)
        clear hr9 hrT
        generalize (if cx = k then (some ⟨g, 0, none⟩ : Option Addr) else some ⟨g, k * 4, none⟩) = AD
        obtain ⟨wz18, hwz18⟩ : ∃ W, W = wq3 := ⟨_, rfl⟩
        rw [← hwz18] at HB17 HX17 HM0 Hrx ⊢
        clear hwz18
        have ea : priceL t l = p6 := Hp6.out
        have eb : priceL t X = p10 := Hp10.out
        have ec : priceL t YT = qt := Hqt.out
        have ed : priceL t YD = qd := Hqd.out
        have hpc := price_bd2 HzT.out
        have hpd := price_bd2 HzD.out
        have hm1 := least_mono (price_least HzT.out) (price_least HzX.out) (fun r hr => by rw [← HYT.out] at hr; exact List.mem_of_mem_take hr)
        have hm2 := least_mono (price_least HzD.out) (price_least HzX.out) (fun r hr => by rw [← HYD.out] at hr; exact List.mem_of_mem_drop hr)
        have hm3 := least_join (price_least HzT.out) (price_least HzD.out) (price_least HzX.out) (fun r hr => by
          rw [← List.take_append_drop k X, HYT.out, HYD.out] at hr
          exact List.mem_append.1 hr)
        rw [ec] at hpc
        rw [ed] at hpd
        rw [ec, eb] at hm1
        rw [ed, eb] at hm2
        rw [ec, ed, eb] at hm3
        have gv : IntKind.i64.wrap (qt + qd) = qt + qd := IntWalk.i64_in _ (by omega)
        have e1 : decide (p10 ≤ qt + qd) = true := decide_eq_true hm3
        have e2 : decide (qt ≤ p10) = true := decide_eq_true hm1
        have e3 : decide (qd ≤ p10) = true := decide_eq_true hm2
        clear ea eb ec ed hm1 hm2 hm3
        go_wp2_with fail
        refine (awake_any _).mono ?_
        rintro e wz19 ⟨rfl, hbz19⟩
        go_wp2
        go_ret
        exact ⟨rfl, HB17.out.trans (hbz19.mono HB17.out.size)⟩
end Go.Proofs.Ytmbkpfkkohpnkaa
