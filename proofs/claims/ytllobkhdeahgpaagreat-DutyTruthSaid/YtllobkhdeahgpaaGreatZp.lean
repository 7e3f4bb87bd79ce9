import Derived.Test.YtllobkhdeahgpaaGreatZm
set_option linter.unusedVariables false
set_option linter.unusedSimpArgs false
namespace Go.Proofs.YtllobkhdeahgpaaGreat
open Go Go.Proofs Go.RowKit

/-! ### Truly -/
def GivesTruth (d : DDay) (w : World) (e : Ending) (w' : World) : Prop := ∃ tt, truthB d.blocks tt = true ∧ GivesTab w tt e w'
theorem cellT_snoc {l : List Rel} {row : List Int} {x : Int} {i : Nat} (h : i < row.length) : cellT l (row ++ [x]) i = cellT l row i := by
  unfold cellT
  rw [List.getElem?_append_left h, List.getElem?_append_left (by omega)]
theorem cellT_last {l : List Rel} {row : List Int} {r : Rel} {x : Int} (hr : l[row.length]? = some r) (h1 : r.lo ≤ x) (h2 : x ≤ r.hi) (h3 : 0 < row.length → row[row.length - 1]?.getD 0 ≤ x) : cellT l (row ++ [x]) row.length = true := by
  unfold cellT
  rw [List.getElem?_append_right (Nat.le_refl _), hr, Bool.and_eq_true]
  simp only [Nat.sub_self, List.getElem?_cons_zero, Option.getD_some]
  refine ⟨inB_iff.2 ⟨h1, h2⟩, ?_⟩
  by_cases h0 : row.length = 0
  · simp [h0]
  · rw [List.getElem?_append_left (by omega)]
    have := h3 (by omega)
    simp
    omega
set_option maxRecDepth 100000 in
set_option maxHeartbeats 8000000 in
theorem Truly_any (d : DDay) (u z v : Value) (ws : List Int) (w : World) (hda : DayAt w u z d) (hd : DayOk d) (hv : NumsAt .u16 w v ws) (hw : ∀ x ∈ ws, 0 ≤ x ∧ x ≤ 65535) :
    Calls Tryz.prog 45 #[.agg #[.int .i64 d.law.piece, .int .i64 d.law.drive, .int .i64 d.law.spread, .int .i64 d.law.brk, .int .i64 d.law.on, .int .i64 d.law.off, .int .i64 d.law.least, .int .i64 d.law.pieces, u, z], v] w (GivesTruth d w) := by
  obtain ⟨A1, c1, rfl, _, _⟩ := hda.blocks.form
  obtain ⟨A2, c2, rfl, _, _⟩ := hda.walk.form
  obtain ⟨A5, c5, rfl, hwc, hwm⟩ := hv.form
  obtain ⟨i0, hi0, hz0, hz1, hz2⟩ := info_parts infoI
  obtain ⟨i1, hi1, hy0, hy1, hy2⟩ := info_parts infoR
  have hm := day_mild hd
  obtain ⟨M, hM⟩ : ∃ M, ws.length = M := ⟨_, rfl⟩
  rw [hM] at hv hwc ⊢
  have HM := Lib.hid hM
  have Hda := Lib.hid hda
  have Hd := Lib.hid hd
  have Hm := Lib.hid hm
  have Hv := Lib.hid hv
  have Hw := Lib.hid hw
  have hn6 := hd.blocks
  clear hda hd hm hv hw hM
  go_enter Tryz.func45, Tryz.ntmps45
  go_upto_region 1 with (fail)
  refine wp_name (fun W => Below w.heap.size w W ∧ W.heap[w.heap.size]? = some (.cells #[.int .i64 d.law.piece, .int .i64 d.law.drive, .int .i64 d.law.spread, .int .i64 d.law.brk, .int .i64 d.law.on, .int .i64 d.law.off, .int .i64 d.law.least, .int .i64 d.law.pieces, .slice A1 d.blocks.length c1, .slice A2 d.walk.length c2] 27 (0, 0))) ⟨(Below.refl _ _).alloc (Nat.le_refl _) _, heap_alloc_new w _⟩ (fun W0 hW => ?_)
  obtain ⟨hb0, hx0⟩ := hW
  have HB0 := Lib.hid hb0
  have HX0 := Lib.hid hx0
  clear hb0 hx0
  go_wp2
  go_loopw [5, 6] (fun v i wr => ∃ (k : Nat) (A : Option Addr) (c : Nat) (us : List Value) (tt : List (List Int)), k ≤ d.blocks.length ∧ i = .int .i64 k ∧ v = .slice A k c ∧ Below W0.heap.size W0 wr ∧ wr.ownsRow W0.heap.size 28 1 v k us ∧ RowsOwn wr W0.heap.size us tt ∧ tt.length = k ∧
    ∀ b, b < k → rowT (d.blocks[b]?.getD []) (tt[b]?.getD []) = true) (fun v i wr => d.blocks.length - (intOf i).toNat)
  case atStart => exact ⟨0, none, 0, [], [], by omega, rfl, rfl, Below.refl _ _, World.ownsRow_nil _ _ _ _, ⟨by simp, by intro j l h; simp at h⟩, rfl, by intro b h; omega⟩
  case round =>
    obtain ⟨k, A, c, us, tt, hk, rfl, rfl, hb, hown0, hro, htl, hrt⟩ := hrel
    obtain ⟨wo, hwo⟩ : ∃ wo : World, wo = wr := ⟨_, rfl⟩
    rw [← hwo] at hb hown0 hro ⊢
    clear hwo
    have Hb := Lib.hid hb
    have Hro := Lib.hid hro
    have Hown0 := Lib.hid hown0
    have Htl := Lib.hid htl
    have Hrt := Lib.hid hrt
    have Hx := Lib.hid ((hb.block _ (Array.getElem?_eq_some_iff.1 HX0.out).1).trans HX0.out)
    have gx := box_cells Hx.out 8
    clear hro hown0 htl hrt
    by_cases hlt : k < d.blocks.length
    · obtain ⟨bb, o, l, u, ea, hl, c0, hr, hblt⟩ := (Hda.out.blocks.below (HB0.out.trans (hb.mono HB0.out.size))).at_ hlt
      subst ea
      obtain ⟨A3, c3, rfl, hc3, hm3⟩ := hr.form
      have hll := Hm.out.block k l hl
      have Hl := Lib.hid hl
      have C0 := Lib.hid c0
      have Hr := Lib.hid hr
      obtain ⟨N, hN⟩ : ∃ N, l.length = N := ⟨_, rfl⟩
      rw [hN] at hll c0 C0 Hr
      have HN := Lib.hid hN
      have hkI : (k : Int) < (d.blocks.length : Int) := by omega
      clear hl hr hN hb
      go_wp2
      go_loopw [7, 8] (fun v j wr => ∃ (m : Nat) (A' : Option Addr) (c' : Nat) (row : List Int), m ≤ N ∧ j = .int .i64 m ∧ v = .slice A' m c' ∧ Below wo.heap.size wo wr ∧ wr.ownsRow wo.heap.size 3 1 v m (row.map (.int .i64)) ∧ row.length = m ∧ ∀ i, i < m → cellT l row i = true) (fun v j wr => N - (intOf j).toNat)
      case atStart => exact ⟨0, none, 0, [], by omega, rfl, rfl, Below.refl _ _, World.ownsRow_nil _ _ _ _, rfl, by intro i h; omega⟩
      case round =>
        obtain ⟨m, A', c', row, hm0, rfl, rfl, hb2, hown, hrl, hct⟩ := hrel
        obtain ⟨wq, hwq⟩ : ∃ wq : World, wq = wr := ⟨_, rfl⟩
        rw [← hwq] at hb2 hown ⊢
        clear hwq gx c0
        have Hb2 := Lib.hid hb2
        have Hown := Lib.hid hown
        have Hrl := Lib.hid hrl
        have Hct := Lib.hid hct
        have q0 := cell_below hb2 C0.out
        have gx := cell_below hb2 (box_cells Hx.out 8)
        by_cases hlm : m < N
        · obtain ⟨b3, o3, r, ea, hr3, r0, r1, r2, hbl⟩ := (Hr.out.below hb2).at_ (k := m) (by rw [HN.out]; exact hlm)
          subst ea
          have k2 : (m : Int) < (N : Int) := by omega
          have hok := Hd.out.rel k l m r Hl.out hr3
          have hlo := hok.lo
          have hhi := hok.hi
          -- the last cell of the row, if there is one
          have hprev : 0 < m → ∃ g y, A' = some ⟨g, 0, none⟩ ∧ wq.cell? ⟨g, m - 1, none⟩ = some (.int .i64 y) ∧ row[m - 1]?.getD 0 = y ∧ y ≤ r.hi := fun h0 => by
            obtain ⟨g, rfl, _, _⟩ := own_some hown h0
            have hm1 : m - 1 < row.length := by omega
            refine ⟨g, row[m - 1], rfl, ?_, by rw [List.getElem?_eq_getElem hm1]; rfl, ?_⟩
            · rw [hown.cellAt (m - 1) (by omega), List.getElem?_map, List.getElem?_eq_getElem hm1]
              rfl
            · have h1 := hct (m - 1) (by omega)
              unfold cellT at h1
              simp only [Bool.and_eq_true] at h1
              have h2 := (inB_iff.1 h1.1).2
              rw [List.getElem?_eq_getElem hm1, Option.getD_some] at h2
              have h3 := List.getElem?_eq_getElem (show m - 1 < l.length by rw [HN.out]; omega)
              rw [h3, Option.getD_some] at h2
              have h4 := (Hd.out.rise k l (m - 1) _ r Hl.out h3 (by rw [show m - 1 + 1 = m by omega]; exact hr3)).2
              omega
          have Hprev := Lib.hid hprev
          have Hr3 := Lib.hid hr3
          obtain ⟨G, hG⟩ : ∃ G, r.hi - r.lo + 1 = G := ⟨_, rfl⟩
          have qa : IntKind.i64.wrap (r.hi - r.lo) = r.hi - r.lo := IntWalk.i64_in _ (by omega)
          have qb : IntKind.i64.wrap (r.hi - r.lo + 1) = G := by rw [hG]; exact IntWalk.i64_in _ (by omega)
          have qg : ¬ G = 0 := by omega
          clear hprev hown hct hok hrl hb2 hr3
          obtain ⟨Gn, hGn⟩ : ∃ n : Nat, G = (n : Int) := ⟨G.toNat, by omega⟩
          subst hGn
          by_cases hM0 : 0 < M
          · have MI : (0 : Int) < (M : Int) := by omega
            obtain ⟨j, hj⟩ : ∃ j, (5 * k + m) % M = j := ⟨_, rfl⟩
            have hjM : j < M := by rw [← hj]; exact Nat.mod_lt _ hM0
            have jI : (j : Int) < (M : Int) := by omega
            have je : (5 * (k : Int) + (m : Int)) % (M : Int) = (j : Int) := by rw [← hj]; simp
            have hvq := (Hv.out.below (HB0.out.trans (Hb.out.mono HB0.out.size))).below Hb2.out
            obtain ⟨b5, o5, x, ea, hx, cx, _⟩ := (hvq.below ((Below.refl wq.heap.size wq).alloc (Nat.le_refl _) (.cells #[.int .i64 r.lo, .int .i64 r.hi] 81))).at_ (k := j) (by rw [HM.out]; exact hjM)
            subst ea
            have hxb := Hw.out x (List.mem_of_getElem? hx)
            obtain ⟨X, rfl⟩ : ∃ X : Nat, x = (X : Int) := ⟨x.toNat, by omega⟩
            clear hvq hx hj
            go_upto_region 13 with (fail)
            refine wp_name (fun V => V.heap[wq.heap.size]? = some (.cells #[.int .i64 r.lo, .int .i64 r.hi] 81 (0, 0)) ∧ Below wq.heap.size wq V) ⟨heap_alloc_new wq _, (Below.refl _ _).alloc (Nat.le_refl _) _⟩ (fun V1 hV => ?_)
            obtain ⟨hv1, hv2⟩ := hV
            have HqV := Lib.hid hv2
            have HG9 := Lib.hid hv1
            have s0 := box_cells hv1 0
            have s1 := box_cells hv1 1
            simp only [List.getElem?_toArray, List.getElem?_cons_zero, List.getElem?_cons_succ] at s0 s1
            clear hv1 hv2 gx q0 r0 r1 r2
            generalize wq.heap.size = g9 at s0 s1 HG9 ⊢
            refine wp_region_noPanic ?_
            refine wp_region_pick [0, 1, 2, 3, 4, 5, 6, 7, 8, 9, 10, 11, 12] [] (fun _ => true) (fun w' => Below V1.heap.size V1 w') (by kernel_rfl) (by kernel_rfl) (fun _ _ _ _ _ h => h) (Below.refl _ _).drew (fun hne => ?_)
            have n0 := fun q : Meets (fun w' => Below V1.heap.size V1 w') => cell_below q.property s0
            have n1 := fun q : Meets (fun w' => Below V1.heap.size V1 w') => cell_below q.property s1
            simp only [pick, pickN, List.filterMap_cons, List.filterMap_nil, List.getElem?_cons_zero, List.getElem?_cons_succ, Option.map_some]
            repeat (change wpQuiet _ _ _ _ (_ :: _) _; go_big_quiet_step (fail))
            refine wpQuiet_nil ?_
            clear n0 n1 hne
            refine wpSeqP_nil ?_
            refine NoPanic.normal ?_
            have hem := Int.emod_nonneg ((X : Int) / 4) (show (Gn : Int) ≠ 0 from qg)
            have hel := Int.emod_lt_of_pos ((X : Int) / 4) (show (0 : Int) < (Gn : Int) by omega)
            obtain ⟨E, hE⟩ : ∃ E, (X : Int) / 4 % (Gn : Int) = E := ⟨_, rfl⟩
            rw [hE] at hem hel ⊢
            obtain ⟨nv, hnv⟩ : ∃ nv : Int, wrap64 (r.lo + E) = nv := ⟨_, rfl⟩
            have hnvb : r.lo ≤ nv ∧ nv ≤ r.hi := by
              have h1 := IntWalk.wrap64_in (r.lo + E) (by omega)
              rw [hnv] at h1
              omega
            rw [hnv]
            clear hE hnv hem hel
            have hqV : Below wq.heap.size wq V1.drew := HqV.out.drew
            have s0 := cell_below (Below.refl V1.heap.size V1).drew s0
            have s1 := cell_below (Below.refl V1.heap.size V1).drew s1
            obtain ⟨V, hVV⟩ : ∃ V, V = V1.drew := ⟨_, rfl⟩
            rw [← hVV] at hqV s0 s1 ⊢
            clear hVV
            have HbV := Lib.hid (Hb2.out.trans (hqV.mono Hb2.out.size))
            have HownV := Lib.hid (own_below Hown.out hqV)
            by_cases w0 : X % 4 = 0
            · have x0 : ((X : Int) % 4 == 0) = true := by simp; omega
              by_cases h0 : 0 < m
              · have mI : (0 : Int) < (m : Int) := by omega
                obtain ⟨g, y, rfl, hy, hye, hyh⟩ := Hprev.out h0
                have iw : IntKind.i64.wrap ((m : Int) - 1) = ((m - 1 : Nat) : Int) := by rw [IntWalk.i64_in _ (by omega)]; omega
                have mI2 : ((m - 1 : Nat) : Int) < (m : Int) := by omega
                have hyV := cell_below hqV hy
                go_wp2_with (at_builtin; go_loud (refine wpList_append_src _ rfl (.tmp 83) (.tmp 85) 28 rfl wo.heap.size 3 i0 _ 1 8 Tryz.underlying28 hi0 hz0 hz1 hz2 rfl (by omega) _ m _ rfl (HownV.out.alloc _) (some ⟨V.heap.size, 0, none⟩) 1 1 [.int .i64 (max r.lo y)] rfl (src_new V [.int .i64 (max r.lo y)] 3 1 1 rfl) (by simp [Value.oneCell']) (by simp [maxLen]; omega) (by omega) (Nat.le_trans HbV.out.size (by simp)) ?_; intro v1 w2 hown1 hg1 hat1; have Hg1 := Lib.hid hg1; obtain ⟨AA1, cc1, rfl⟩ := own_form hown1; have Hown1 := Lib.hid hown1; clear hown1 hg1 hat1))
                go_roundw
                case rel =>
                  have hrl := Hrl.out
                  refine ⟨m + 1, AA1, cc1, row ++ [(max r.lo y)], by omega, by go_num, rfl, (HbV.out.alloc HbV.out.size _).grown Hg1.out (Nat.le_trans HbV.out.size (by simp)) (fun q hq => (HownV.out.lt q hq).1), by rw [List.map_append]; exact Hown1.out, by rw [List.length_append, hrl]; rfl, fun i hi => ?_⟩
                  by_cases him : i < m
                  · rw [cellT_snoc (by omega)]; exact Hct.out i him
                  · have hie : i = row.length := by omega
                    rw [hie]
                    refine cellT_last (r := r) (by rw [hrl]; exact Hr3.out) ?_ ?_ (fun h0 => ?_)
                    · omega
                    · omega
                    · rw [hrl, hye]; omega
                case measure => simp [intOf]; omega
              · have mI : ¬ (0 : Int) < (m : Int) := by omega
                go_wp2_with (at_builtin; go_loud (refine wpList_append_src _ rfl (.tmp 83) (.tmp 85) 28 rfl wo.heap.size 3 i0 _ 1 8 Tryz.underlying28 hi0 hz0 hz1 hz2 rfl (by omega) _ m _ rfl (HownV.out.alloc _) (some ⟨V.heap.size, 0, none⟩) 1 1 [.int .i64 r.lo] rfl (src_new V [.int .i64 r.lo] 3 1 1 rfl) (by simp [Value.oneCell']) (by simp [maxLen]; omega) (by omega) (Nat.le_trans HbV.out.size (by simp)) ?_; intro v1 w2 hown1 hg1 hat1; have Hg1 := Lib.hid hg1; obtain ⟨AA1, cc1, rfl⟩ := own_form hown1; have Hown1 := Lib.hid hown1; clear hown1 hg1 hat1))
                go_roundw
                case rel =>
                  have hrl := Hrl.out
                  refine ⟨m + 1, AA1, cc1, row ++ [r.lo], by omega, by go_num, rfl, (HbV.out.alloc HbV.out.size _).grown Hg1.out (Nat.le_trans HbV.out.size (by simp)) (fun q hq => (HownV.out.lt q hq).1), by rw [List.map_append]; exact Hown1.out, by rw [List.length_append, hrl]; rfl, fun i hi => ?_⟩
                  by_cases him : i < m
                  · rw [cellT_snoc (by omega)]; exact Hct.out i him
                  · have hie : i = row.length := by omega
                    rw [hie]
                    refine cellT_last (r := r) (by rw [hrl]; exact Hr3.out) ?_ ?_ (fun h0 => ?_)
                    · omega
                    · omega
                    · omega
                case measure => simp [intOf]; omega
            · have x0 : ((X : Int) % 4 == 0) = false := by simp; omega
              by_cases w1 : X % 4 = 1
              · have x1 : ((X : Int) % 4 == 1) = true := by simp; omega
                by_cases h0 : 0 < m
                · have mI : (0 : Int) < (m : Int) := by omega
                  obtain ⟨g, y, rfl, hy, hye, hyh⟩ := Hprev.out h0
                  have iw : IntKind.i64.wrap ((m : Int) - 1) = ((m - 1 : Nat) : Int) := by rw [IntWalk.i64_in _ (by omega)]; omega
                  have mI2 : ((m - 1 : Nat) : Int) < (m : Int) := by omega
                  have hyV := cell_below hqV hy
                  go_wp2_with (at_builtin; go_loud (refine wpList_append_src _ rfl (.tmp 83) (.tmp 85) 28 rfl wo.heap.size 3 i0 _ 1 8 Tryz.underlying28 hi0 hz0 hz1 hz2 rfl (by omega) _ m _ rfl (HownV.out.alloc _) (some ⟨V.heap.size, 0, none⟩) 1 1 [.int .i64 (max r.hi y)] rfl (src_new V [.int .i64 (max r.hi y)] 3 1 1 rfl) (by simp [Value.oneCell']) (by simp [maxLen]; omega) (by omega) (Nat.le_trans HbV.out.size (by simp)) ?_; intro v1 w2 hown1 hg1 hat1; have Hg1 := Lib.hid hg1; obtain ⟨AA1, cc1, rfl⟩ := own_form hown1; have Hown1 := Lib.hid hown1; clear hown1 hg1 hat1))
                  go_roundw
                  case rel =>
                    have hrl := Hrl.out
                    refine ⟨m + 1, AA1, cc1, row ++ [(max r.hi y)], by omega, by go_num, rfl, (HbV.out.alloc HbV.out.size _).grown Hg1.out (Nat.le_trans HbV.out.size (by simp)) (fun q hq => (HownV.out.lt q hq).1), by rw [List.map_append]; exact Hown1.out, by rw [List.length_append, hrl]; rfl, fun i hi => ?_⟩
                    by_cases him : i < m
                    · rw [cellT_snoc (by omega)]; exact Hct.out i him
                    · have hie : i = row.length := by omega
                      rw [hie]
                      refine cellT_last (r := r) (by rw [hrl]; exact Hr3.out) ?_ ?_ (fun h0 => ?_)
                      · omega
                      · omega
                      · rw [hrl, hye]; omega
                  case measure => simp [intOf]; omega
                · have mI : ¬ (0 : Int) < (m : Int) := by omega
                  go_wp2_with (at_builtin; go_loud (refine wpList_append_src _ rfl (.tmp 83) (.tmp 85) 28 rfl wo.heap.size 3 i0 _ 1 8 Tryz.underlying28 hi0 hz0 hz1 hz2 rfl (by omega) _ m _ rfl (HownV.out.alloc _) (some ⟨V.heap.size, 0, none⟩) 1 1 [.int .i64 r.hi] rfl (src_new V [.int .i64 r.hi] 3 1 1 rfl) (by simp [Value.oneCell']) (by simp [maxLen]; omega) (by omega) (Nat.le_trans HbV.out.size (by simp)) ?_; intro v1 w2 hown1 hg1 hat1; have Hg1 := Lib.hid hg1; obtain ⟨AA1, cc1, rfl⟩ := own_form hown1; have Hown1 := Lib.hid hown1; clear hown1 hg1 hat1))
                  go_roundw
                  case rel =>
                    have hrl := Hrl.out
                    refine ⟨m + 1, AA1, cc1, row ++ [r.hi], by omega, by go_num, rfl, (HbV.out.alloc HbV.out.size _).grown Hg1.out (Nat.le_trans HbV.out.size (by simp)) (fun q hq => (HownV.out.lt q hq).1), by rw [List.map_append]; exact Hown1.out, by rw [List.length_append, hrl]; rfl, fun i hi => ?_⟩
                    by_cases him : i < m
                    · rw [cellT_snoc (by omega)]; exact Hct.out i him
                    · have hie : i = row.length := by omega
                      rw [hie]
                      refine cellT_last (r := r) (by rw [hrl]; exact Hr3.out) ?_ ?_ (fun h0 => ?_)
                      · omega
                      · omega
                      · omega
                  case measure => simp [intOf]; omega
              · have x1 : ((X : Int) % 4 == 1) = false := by simp; omega
                by_cases h0 : 0 < m
                · have mI : (0 : Int) < (m : Int) := by omega
                  obtain ⟨g, y, rfl, hy, hye, hyh⟩ := Hprev.out h0
                  have iw : IntKind.i64.wrap ((m : Int) - 1) = ((m - 1 : Nat) : Int) := by rw [IntWalk.i64_in _ (by omega)]; omega
                  have mI2 : ((m - 1 : Nat) : Int) < (m : Int) := by omega
                  have hyV := cell_below hqV hy
                  go_wp2_with (at_builtin; go_loud (refine wpList_append_src _ rfl (.tmp 83) (.tmp 85) 28 rfl wo.heap.size 3 i0 _ 1 8 Tryz.underlying28 hi0 hz0 hz1 hz2 rfl (by omega) _ m _ rfl (HownV.out.alloc _) (some ⟨V.heap.size, 0, none⟩) 1 1 [.int .i64 (max nv y)] rfl (src_new V [.int .i64 (max nv y)] 3 1 1 rfl) (by simp [Value.oneCell']) (by simp [maxLen]; omega) (by omega) (Nat.le_trans HbV.out.size (by simp)) ?_; intro v1 w2 hown1 hg1 hat1; have Hg1 := Lib.hid hg1; obtain ⟨AA1, cc1, rfl⟩ := own_form hown1; have Hown1 := Lib.hid hown1; clear hown1 hg1 hat1))
                  go_roundw
                  case rel =>
                    have hrl := Hrl.out
                    refine ⟨m + 1, AA1, cc1, row ++ [(max nv y)], by omega, by go_num, rfl, (HbV.out.alloc HbV.out.size _).grown Hg1.out (Nat.le_trans HbV.out.size (by simp)) (fun q hq => (HownV.out.lt q hq).1), by rw [List.map_append]; exact Hown1.out, by rw [List.length_append, hrl]; rfl, fun i hi => ?_⟩
                    by_cases him : i < m
                    · rw [cellT_snoc (by omega)]; exact Hct.out i him
                    · have hie : i = row.length := by omega
                      rw [hie]
                      refine cellT_last (r := r) (by rw [hrl]; exact Hr3.out) ?_ ?_ (fun h0 => ?_)
                      · omega
                      · omega
                      · rw [hrl, hye]; omega
                  case measure => simp [intOf]; omega
                · have mI : ¬ (0 : Int) < (m : Int) := by omega
                  go_wp2_with (at_builtin; go_loud (refine wpList_append_src _ rfl (.tmp 83) (.tmp 85) 28 rfl wo.heap.size 3 i0 _ 1 8 Tryz.underlying28 hi0 hz0 hz1 hz2 rfl (by omega) _ m _ rfl (HownV.out.alloc _) (some ⟨V.heap.size, 0, none⟩) 1 1 [.int .i64 nv] rfl (src_new V [.int .i64 nv] 3 1 1 rfl) (by simp [Value.oneCell']) (by simp [maxLen]; omega) (by omega) (Nat.le_trans HbV.out.size (by simp)) ?_; intro v1 w2 hown1 hg1 hat1; have Hg1 := Lib.hid hg1; obtain ⟨AA1, cc1, rfl⟩ := own_form hown1; have Hown1 := Lib.hid hown1; clear hown1 hg1 hat1))
                  go_roundw
                  case rel =>
                    have hrl := Hrl.out
                    refine ⟨m + 1, AA1, cc1, row ++ [nv], by omega, by go_num, rfl, (HbV.out.alloc HbV.out.size _).grown Hg1.out (Nat.le_trans HbV.out.size (by simp)) (fun q hq => (HownV.out.lt q hq).1), by rw [List.map_append]; exact Hown1.out, by rw [List.length_append, hrl]; rfl, fun i hi => ?_⟩
                    by_cases him : i < m
                    · rw [cellT_snoc (by omega)]; exact Hct.out i him
                    · have hie : i = row.length := by omega
                      rw [hie]
                      refine cellT_last (r := r) (by rw [hrl]; exact Hr3.out) ?_ ?_ (fun h0 => ?_)
                      · omega
                      · omega
                      · omega
                  case measure => simp [intOf]; omega
          · have MI : ¬ (0 : Int) < (M : Int) := by omega
            go_upto_region 13 with (fail)
            refine wp_name (fun V => V.heap[wq.heap.size]? = some (.cells #[.int .i64 r.lo, .int .i64 r.hi] 81 (0, 0)) ∧ Below wq.heap.size wq V) ⟨heap_alloc_new wq _, (Below.refl _ _).alloc (Nat.le_refl _) _⟩ (fun V1 hV => ?_)
            obtain ⟨hv1, hv2⟩ := hV
            have HqV := Lib.hid hv2
            have HG9 := Lib.hid hv1
            have s0 := box_cells hv1 0
            have s1 := box_cells hv1 1
            simp only [List.getElem?_toArray, List.getElem?_cons_zero, List.getElem?_cons_succ] at s0 s1
            clear hv1 hv2 gx q0 r0 r1 r2
            generalize wq.heap.size = g9 at s0 s1 HG9 ⊢
            refine wp_region_noPanic ?_
            refine wp_region_pick [0, 1, 2, 3, 4, 5, 6, 7, 8, 9, 10, 11, 12] [] (fun _ => true) (fun w' => Below V1.heap.size V1 w') (by kernel_rfl) (by kernel_rfl) (fun _ _ _ _ _ h => h) (Below.refl _ _).drew (fun hne => ?_)
            have n0 := fun q : Meets (fun w' => Below V1.heap.size V1 w') => cell_below q.property s0
            have n1 := fun q : Meets (fun w' => Below V1.heap.size V1 w') => cell_below q.property s1
            simp only [pick, pickN, List.filterMap_cons, List.filterMap_nil, List.getElem?_cons_zero, List.getElem?_cons_succ, Option.map_some]
            repeat (change wpQuiet _ _ _ _ (_ :: _) _; go_big_quiet_step (fail))
            refine wpQuiet_nil ?_
            clear n0 n1 hne
            refine wpSeqP_nil ?_
            refine NoPanic.normal ?_
            have hqV : Below wq.heap.size wq V1.drew := HqV.out.drew
            have s0 := cell_below (Below.refl V1.heap.size V1).drew s0
            have s1 := cell_below (Below.refl V1.heap.size V1).drew s1
            obtain ⟨V, hVV⟩ : ∃ V, V = V1.drew := ⟨_, rfl⟩
            rw [← hVV] at hqV s0 s1 ⊢
            clear hVV
            have HbV := Lib.hid (Hb2.out.trans (hqV.mono Hb2.out.size))
            have HownV := Lib.hid (own_below Hown.out hqV)
            by_cases h0 : 0 < m
            · have mI : (0 : Int) < (m : Int) := by omega
              obtain ⟨g, y, rfl, hy, hye, hyh⟩ := Hprev.out h0
              have iw : IntKind.i64.wrap ((m : Int) - 1) = ((m - 1 : Nat) : Int) := by rw [IntWalk.i64_in _ (by omega)]; omega
              have mI2 : ((m - 1 : Nat) : Int) < (m : Int) := by omega
              have hyV := cell_below hqV hy
              go_wp2_with (at_builtin; go_loud (refine wpList_append_src _ rfl (.tmp 83) (.tmp 85) 28 rfl wo.heap.size 3 i0 _ 1 8 Tryz.underlying28 hi0 hz0 hz1 hz2 rfl (by omega) _ m _ rfl (HownV.out.alloc _) (some ⟨V.heap.size, 0, none⟩) 1 1 [.int .i64 (max r.hi y)] rfl (src_new V [.int .i64 (max r.hi y)] 3 1 1 rfl) (by simp [Value.oneCell']) (by simp [maxLen]; omega) (by omega) (Nat.le_trans HbV.out.size (by simp)) ?_; intro v1 w2 hown1 hg1 hat1; have Hg1 := Lib.hid hg1; obtain ⟨AA1, cc1, rfl⟩ := own_form hown1; have Hown1 := Lib.hid hown1; clear hown1 hg1 hat1))
              go_roundw
              case rel =>
                have hrl := Hrl.out
                refine ⟨m + 1, AA1, cc1, row ++ [(max r.hi y)], by omega, by go_num, rfl, (HbV.out.alloc HbV.out.size _).grown Hg1.out (Nat.le_trans HbV.out.size (by simp)) (fun q hq => (HownV.out.lt q hq).1), by rw [List.map_append]; exact Hown1.out, by rw [List.length_append, hrl]; rfl, fun i hi => ?_⟩
                by_cases him : i < m
                · rw [cellT_snoc (by omega)]; exact Hct.out i him
                · have hie : i = row.length := by omega
                  rw [hie]
                  refine cellT_last (r := r) (by rw [hrl]; exact Hr3.out) ?_ ?_ (fun h0 => ?_)
                  · omega
                  · omega
                  · rw [hrl, hye]; omega
              case measure => simp [intOf]; omega
            · have mI : ¬ (0 : Int) < (m : Int) := by omega
              go_wp2_with (at_builtin; go_loud (refine wpList_append_src _ rfl (.tmp 83) (.tmp 85) 28 rfl wo.heap.size 3 i0 _ 1 8 Tryz.underlying28 hi0 hz0 hz1 hz2 rfl (by omega) _ m _ rfl (HownV.out.alloc _) (some ⟨V.heap.size, 0, none⟩) 1 1 [.int .i64 r.hi] rfl (src_new V [.int .i64 r.hi] 3 1 1 rfl) (by simp [Value.oneCell']) (by simp [maxLen]; omega) (by omega) (Nat.le_trans HbV.out.size (by simp)) ?_; intro v1 w2 hown1 hg1 hat1; have Hg1 := Lib.hid hg1; obtain ⟨AA1, cc1, rfl⟩ := own_form hown1; have Hown1 := Lib.hid hown1; clear hown1 hg1 hat1))
              go_roundw
              case rel =>
                have hrl := Hrl.out
                refine ⟨m + 1, AA1, cc1, row ++ [r.hi], by omega, by go_num, rfl, (HbV.out.alloc HbV.out.size _).grown Hg1.out (Nat.le_trans HbV.out.size (by simp)) (fun q hq => (HownV.out.lt q hq).1), by rw [List.map_append]; exact Hown1.out, by rw [List.length_append, hrl]; rfl, fun i hi => ?_⟩
                by_cases him : i < m
                · rw [cellT_snoc (by omega)]; exact Hct.out i him
                · have hie : i = row.length := by omega
                  rw [hie]
                  refine cellT_last (r := r) (by rw [hrl]; exact Hr3.out) ?_ ?_ (fun h0 => ?_)
                  · omega
                  · omega
                  · omega
              case measure => simp [intOf]; omega
        · have hmN : m = N := by omega
          subst hmN
          have hrow : rowT l row = true := by
            unfold rowT
            rw [Bool.and_eq_true, decide_eq_true_eq, all_range, Hrl.out, HN.out]
            exact ⟨rfl, Hct.out⟩
          have hsz := Hb.out.size
          have Hw2 := Lib.hid (own_mono Hown.out hsz)
          have Hrow := Lib.hid (own_below Hown0.out Hb2.out)
          have Hrr := Lib.hid (Hro.out.below Hb2.out)
          have Hbq := Lib.hid (Hb.out.trans (Hb2.out.mono hsz))
          have Hrow1 := Lib.hid hrow
          have hsq := Hbq.out.size
          have k2 : ¬ (m : Int) < (m : Int) := by omega
          clear hrow hb2 hown hct hrl
          go_wp2_with (at_builtin; go_loud (refine wpList_append_src _ rfl (.tmp 87) (.tmp 89) 25 rfl W0.heap.size 28 i1 _ 1 24 Tryz.underlying25 hi1 hy0 hy1 hy2 rfl (by omega) _ k us rfl (Hrow.out.alloc _) (some ⟨wq.heap.size, 0, none⟩) 1 1 [.slice A' m c'] rfl (src_new wq [.slice A' m c'] 28 1 1 rfl) (by simp [Value.oneCell']) (by simp [maxLen]; omega) (by omega) (by simp; omega) ?_; intro v1 w1 hown1 hg1 hat1; have Hg1 := Lib.hid hg1; obtain ⟨AA1, cc1, rfl⟩ := own_form hown1; have Hown1 := Lib.hid hown1; clear hown1 hg1 hat1))
          go_roundw
          case rel =>
            have hg3 : (wq.alloc (.cells #[.slice A' m c'] 28)).grownBy w1 (Value.slice A k c).ownBlock := Hg1.out
            have h1 : RowsOwn (wq.alloc (.cells #[.slice A' m c'] 28)) W0.heap.size us tt := Hrr.out.below ((Below.refl _ _).alloc (Nat.le_refl _) _)
            have h2 := (Hw2.out.alloc (.cells #[.slice A' m c'] 28)).kept hg3 (own_apart Hw2.out Hrow.out (by decide))
            refine ⟨k + 1, AA1, cc1, us ++ [.slice A' m c'], tt ++ [row], by omega, by go_num, rfl, below_grown (Hbq.out.alloc Hbq.out.size _) hg3 (by simp; omega) (Hrow.out.alloc _) (Nat.le_refl _), Hown1.out, (h1.kept (Hrow.out.alloc _) (by decide) hg3).snoc (by rw [Hrl.out]; exact h2), by rw [List.length_append, Htl.out]; rfl, fun b hb => ?_⟩
            by_cases hbk : b < k
            · rw [List.getElem?_append_left (by rw [Htl.out]; exact hbk)]
              exact Hrt.out b hbk
            · have hbe : b = k := by omega
              subst hbe
              rw [List.getElem?_append_right (by rw [Htl.out]; omega), Htl.out, Nat.sub_self, Hl.out]
              exact Hrow1.out
          case measure => simp [intOf]; omega
    · have hke : k = d.blocks.length := by omega
      have hkI : ¬ (k : Int) < (d.blocks.length : Int) := by omega
      have htr : truthB d.blocks tt = true := by
        unfold truthB
        rw [Bool.and_eq_true, decide_eq_true_eq, all_range, Htl.out]
        exact ⟨hke, Hrt.out⟩
      have Htr := Lib.hid htr
      have htl2 := Htl.out
      clear htr hb
      go_wp2
      go_ret
      exact ⟨tt, Htr.out, gives_tab (hke ▸ Hown0.out) Hro.out (by rw [htl2]; exact hke.symm) HB0.out.size (HB0.out.trans (Hb.out.mono HB0.out.size))⟩
end Go.Proofs.YtllobkhdeahgpaaGreat
