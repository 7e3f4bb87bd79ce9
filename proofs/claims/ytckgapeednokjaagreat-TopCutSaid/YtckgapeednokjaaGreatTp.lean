import Derived.Test.YtckgapeednokjaaGreatTh
set_option linter.unusedVariables false
set_option linter.unusedSimpArgs false
namespace Go.Proofs.YtckgapeednokjaaGreat
open Go Go.Proofs Go.RowKit

/-! ### The minutes of a truth -/
def GivesPick (t : Tab) (w : World) (e : Ending) (w' : World) : Prop := ∃ (ts : List Int) (A : Option Addr) (c : Nat), e = .returned (.slice A t.trips.length c) ∧ ts.length = t.trips.length ∧
  (∀ i, i < t.trips.length → (tripAt t i).least ≤ ts[i]?.getD 0 ∧ ts[i]?.getD 0 ≤ (tripAt t i).most) ∧ NumsAt .i64 w' (.slice A t.trips.length c) ts ∧ Below w.heap.size w w'
set_option maxRecDepth 100000 in
set_option maxHeartbeats 6400000 in
theorem Picked_any (t : Tab) (u z v : Value) (ws : List Int) (w : World) (hT : TabAt w u z t) (ht : TabOk t) (hv : NumsAt .u16 w v ws) (hw : ∀ x ∈ ws, 0 ≤ x ∧ x ≤ 65535) :
    Calls Tryz.prog 25 #[.agg #[.int .i64 t.places, .int .i64 t.lay, u, z], v] w (GivesPick t w) := by
  obtain ⟨i0, hi0, hz0, hz1, hz2⟩ := info_parts infoI
  obtain ⟨A1, c1, rfl, _, _⟩ := hT.rows.form
  obtain ⟨A2, c2, rfl, _, _⟩ := hT.trips.form
  obtain ⟨A3, c3, rfl, _, _⟩ := hv.form
  have hw0 : Below w.heap.size w (w.alloc (.cells #[.int .i64 t.places, .int .i64 t.lay, .slice A1 t.empty.length c1, .slice A2 t.trips.length c2] 48)) := (Below.refl _ _).alloc (Nat.le_refl _) _
  have G0 := Lib.hid (heap_alloc_new w (.cells #[.int .i64 t.places, .int .i64 t.lay, .slice A1 t.empty.length c1, .slice A2 t.trips.length c2] 48 (0, 0)))
  have HT := Lib.hid hT
  have Ht := Lib.hid ht
  have h12 := ht.trips
  obtain ⟨N, hN⟩ : ∃ N, t.trips.length = N := ⟨_, rfl⟩
  have HN := Lib.hid hN
  obtain ⟨M, hM⟩ : ∃ M, ws.length = M := ⟨_, rfl⟩
  have HM := Lib.hid hM
  have Hv := Lib.hid hv
  have Hw := Lib.hid hw
  rw [hM] at Hv ⊢
  rw [hN] at h12 G0 hw0 ⊢
  clear hT ht hN hM hv hw
  go_enter Tryz.func25, Tryz.ntmps25
  have gc := box_cells G0.out
  have gf := box_frozen G0.out
  go_upto_region 1 with (fail)
  refine wp_name (fun W => Below w.heap.size w W ∧ W.heap[w.heap.size]? = some (.cells #[.int .i64 t.places, .int .i64 t.lay, .slice A1 t.empty.length c1, .slice A2 N c2] 48 (0, 0))) ⟨hw0, G0.out⟩ (fun w1 hW => ?_)
  obtain ⟨hw1, g1⟩ := hW
  have G1 := Lib.hid g1
  clear g1
  replace gc := box_cells G1.out
  replace gf := box_frozen G1.out
  clear hw0 G0
  go_wp2
  go_loopw [5, 6] (fun x i wr => ∃ (k : Nat) (A' : Option Addr) (c' : Nat) (ts : List Int), k ≤ N ∧ i = .int .i64 k ∧ x = .slice A' k c' ∧ Below w1.heap.size w1 wr ∧ wr.ownsRow w1.heap.size 3 1 (.slice A' k c') k (ts.map (.int .i64)) ∧ ts.length = k ∧ ∀ i, i < k → (tripAt t i).least ≤ ts[i]?.getD 0 ∧ ts[i]?.getD 0 ≤ (tripAt t i).most) (fun x i wr => N - (intOf i).toNat)
  case atStart => exact ⟨0, none, 0, [], by omega, rfl, rfl, Below.refl _ _, World.ownsRow_nil _ _ _ _, rfl, fun i h => by omega⟩
  case round =>
    obtain ⟨k, A', c', ts, hk, rfl, rfl, hbr, hown, htl, hts⟩ := hrel
    obtain ⟨wo, rfl⟩ : ∃ wo : World, wo = wr := ⟨_, rfl⟩
    have hwo := hw1.trans (hbr.mono hw1.size)
    have Go := Lib.hid (box_stepR hbr G1.out)
    replace gc := box_cells Go.out
    replace gf := box_frozen Go.out
    have Hown := Lib.hid hown
    have Htl := Lib.hid htl
    have Hts := Lib.hid hts
    have Hbr := Lib.hid hbr
    have hsr := hbr.size
    clear hown htl hts hbr
    by_cases hlt : k < N
    · skip
      obtain ⟨b, o, x, eA, hx, x0, x1, x2, x3, x4, x5, _⟩ := (HT.out.trips.below hwo).at_ (k := k) (by rw [HN.out]; exact hlt)
      subst eA
      have hxe : tripAt t k = x := by unfold tripAt; rw [hx]; rfl
      have Hxe := Lib.hid hxe
      have hok := Ht.out.trip x (List.mem_of_getElem? hx)
      have hle := hok.least
      have hmo := hok.most
      have hBlt : w.heap.size < wo.heap.size := (Array.getElem?_eq_some_iff.1 Go.out).1
      obtain ⟨G, hG⟩ : ∃ G, x.most - x.least + 1 = G := ⟨_, rfl⟩
      have qa : IntKind.i64.wrap (x.most - x.least) = x.most - x.least := IntWalk.i64_in _ (by omega)
      have qb : IntKind.i64.wrap (x.most - x.least + 1) = G := by rw [hG]; exact IntWalk.i64_in _ (by omega)
      have qg : ¬ G = 0 := by omega
      obtain ⟨Gn, hGn⟩ : ∃ n : Nat, G = (n : Int) := ⟨G.toNat, by omega⟩
      subst hGn
      clear hx hxe hok
      by_cases hM0 : 0 < M
      · have MI : (0 : Int) < (M : Int) := by omega
        obtain ⟨j, hj⟩ : ∃ j, k % M = j := ⟨_, rfl⟩
        have hjM : j < M := by rw [← hj]; exact Nat.mod_lt _ hM0
        have jI : (j : Int) < (M : Int) := by omega
        have je : (k : Int) % (M : Int) = (j : Int) := by rw [← hj]; simp
        obtain ⟨b5, o5, xw, ea, hxw, cx, _⟩ := ((Hv.out.below hwo).below ((Below.refl wo.heap.size wo).alloc (Nat.le_refl _) (.cells #[.int .i64 x.fr, .int .i64 x.to, .int .i64 x.start, .int .i64 x.least, .int .i64 x.most, .int .i64 x.kind] 78))).at_ (k := j) (by rw [HM.out]; exact hjM)
        subst ea
        have hxb := Hw.out xw (List.mem_of_getElem? hxw)
        obtain ⟨Xn, rfl⟩ : ∃ n : Nat, xw = (n : Int) := ⟨xw.toNat, by omega⟩
        clear hxw hj
        go_upto_region 9 with (fail)
        refine wp_name (fun V => V.heap[wo.heap.size]? = some (.cells #[.int .i64 x.fr, .int .i64 x.to, .int .i64 x.start, .int .i64 x.least, .int .i64 x.most, .int .i64 x.kind] 78 (0, 0)) ∧ Below wo.heap.size wo V) ⟨heap_alloc_new wo _, (Below.refl _ _).alloc (Nat.le_refl _) _⟩ (fun V1 hV => ?_)
        obtain ⟨hv1, hv2⟩ := hV
        have HqV := Lib.hid hv2
        have s3 := box_cells hv1 3
        have s4 := box_cells hv1 4
        simp only [List.getElem?_toArray, List.getElem?_cons_zero, List.getElem?_cons_succ] at s3 s4
        clear hv1 hv2 x0 x1 x2 x3 x4 x5 gc gf
        generalize wo.heap.size = g9 at s3 s4 ⊢
        refine wp_region_noPanic ?_
        refine wp_region_pick [0, 1, 2, 3, 4, 5, 6, 7, 8, 9, 10, 11, 12] [] (fun _ => true) (fun w' => Below V1.heap.size V1 w') (by kernel_rfl) (by kernel_rfl) (fun _ _ _ _ _ h => h) (Below.refl _ _).drew (fun hne => ?_)
        have n0 := fun q : Meets (fun w' => Below V1.heap.size V1 w') => cell_below q.property s3
        have n1 := fun q : Meets (fun w' => Below V1.heap.size V1 w') => cell_below q.property s4
        simp only [pick, pickN, List.filterMap_cons, List.filterMap_nil, List.getElem?_cons_zero, List.getElem?_cons_succ, Option.map_some]
        repeat (change wpQuiet _ _ _ _ (_ :: _) _; go_big_quiet_step (fail))
        refine wpQuiet_nil ?_
        clear n0 n1 hne
        refine wpSeqP_nil ?_
        refine NoPanic.normal ?_
        have hem := Int.emod_nonneg ((Xn : Int) / 3) (show (Gn : Int) ≠ 0 from qg)
        have hel := Int.emod_lt_of_pos ((Xn : Int) / 3) (show (0 : Int) < (Gn : Int) by omega)
        obtain ⟨E, hE⟩ : ∃ E, (Xn : Int) / 3 % (Gn : Int) = E := ⟨_, rfl⟩
        rw [hE] at hem hel ⊢
        obtain ⟨nv, hnv⟩ : ∃ nv : Int, wrap64 (x.least + E) = nv := ⟨_, rfl⟩
        have hnvb : x.least ≤ nv ∧ nv ≤ x.most := by
          have h1 := IntWalk.wrap64_in (x.least + E) (by omega)
          rw [hnv] at h1
          omega
        rw [hnv]
        clear hE hnv hem hel
        have hqV : Below wo.heap.size wo V1.drew := HqV.out.drew
        have s3 := cell_below (Below.refl V1.heap.size V1).drew s3
        have s4 := cell_below (Below.refl V1.heap.size V1).drew s4
        obtain ⟨V, hVV⟩ : ∃ V, V = V1.drew := ⟨_, rfl⟩
        rw [← hVV] at hqV s3 s4 ⊢
        clear hVV
        have HbV := Lib.hid (Hbr.out.trans (hqV.mono hsr))
        have HownV := Lib.hid (own_below Hown.out hqV)
        by_cases z0 : Xn % 3 = 0
        · have x0 : ((Xn : Int) % 3 == 0) = true := by simp; omega
          go_wp2_with (at_builtin; refine wpList_append_src _ rfl (.tmp 55) (.tmp 57) 29 rfl w1.heap.size 3 i0 _ 1 8 Tryz.underlying29 hi0 hz0 hz1 hz2 rfl (by omega) _ k _ rfl (HownV.out.alloc _) (some ⟨V.heap.size, 0, none⟩) 1 1 [.int .i64 (x.least)] rfl (src_new V [.int .i64 (x.least)] 3 1 1 rfl) (by simp [Value.oneCell']) (by simp [maxLen]; omega) (by omega) (Nat.le_trans HbV.out.size (by simp)) ?_; intro v1 w2 hown1 hg1 hat1; have Hg1 := Lib.hid hg1; obtain ⟨AA1, cc1, rfl⟩ := own_form hown1; have Hown1 := Lib.hid hown1; clear hown1 hg1 hat1)
          go_roundw
          case rel =>
            have htl := Htl.out
            refine ⟨k + 1, AA1, cc1, ts ++ [x.least], by omega, by go_num, rfl, (HbV.out.alloc HbV.out.size _).grown Hg1.out (Nat.le_trans HbV.out.size (by simp)) (fun q hq => (HownV.out.lt q hq).1), by rw [List.map_append]; exact Hown1.out, by rw [List.length_append, htl]; rfl, fun i hi => ?_⟩
            by_cases hik : i < k
            · rw [List.getElem?_append_left (by rw [htl]; exact hik)]
              exact Hts.out i hik
            · obtain rfl : i = k := by omega
              rw [List.getElem?_append_right (by rw [htl]; exact Nat.le_refl _), htl, Nat.sub_self, Hxe.out]
              simp only [List.getElem?_cons_zero, Option.getD_some]
              omega
          case measure => simp [intOf]; omega
        · have x0 : ((Xn : Int) % 3 == 0) = false := by simp; omega
          by_cases z1 : Xn % 3 = 1
          · have x1 : ((Xn : Int) % 3 == 1) = true := by simp; omega
            go_wp2_with (at_builtin; refine wpList_append_src _ rfl (.tmp 55) (.tmp 57) 29 rfl w1.heap.size 3 i0 _ 1 8 Tryz.underlying29 hi0 hz0 hz1 hz2 rfl (by omega) _ k _ rfl (HownV.out.alloc _) (some ⟨V.heap.size, 0, none⟩) 1 1 [.int .i64 (x.most)] rfl (src_new V [.int .i64 (x.most)] 3 1 1 rfl) (by simp [Value.oneCell']) (by simp [maxLen]; omega) (by omega) (Nat.le_trans HbV.out.size (by simp)) ?_; intro v1 w2 hown1 hg1 hat1; have Hg1 := Lib.hid hg1; obtain ⟨AA1, cc1, rfl⟩ := own_form hown1; have Hown1 := Lib.hid hown1; clear hown1 hg1 hat1)
            go_roundw
            case rel =>
              have htl := Htl.out
              refine ⟨k + 1, AA1, cc1, ts ++ [x.most], by omega, by go_num, rfl, (HbV.out.alloc HbV.out.size _).grown Hg1.out (Nat.le_trans HbV.out.size (by simp)) (fun q hq => (HownV.out.lt q hq).1), by rw [List.map_append]; exact Hown1.out, by rw [List.length_append, htl]; rfl, fun i hi => ?_⟩
              by_cases hik : i < k
              · rw [List.getElem?_append_left (by rw [htl]; exact hik)]
                exact Hts.out i hik
              · obtain rfl : i = k := by omega
                rw [List.getElem?_append_right (by rw [htl]; exact Nat.le_refl _), htl, Nat.sub_self, Hxe.out]
                simp only [List.getElem?_cons_zero, Option.getD_some]
                omega
            case measure => simp [intOf]; omega
          · have x1 : ((Xn : Int) % 3 == 1) = false := by simp; omega
            go_wp2_with (at_builtin; refine wpList_append_src _ rfl (.tmp 55) (.tmp 57) 29 rfl w1.heap.size 3 i0 _ 1 8 Tryz.underlying29 hi0 hz0 hz1 hz2 rfl (by omega) _ k _ rfl (HownV.out.alloc _) (some ⟨V.heap.size, 0, none⟩) 1 1 [.int .i64 (nv)] rfl (src_new V [.int .i64 (nv)] 3 1 1 rfl) (by simp [Value.oneCell']) (by simp [maxLen]; omega) (by omega) (Nat.le_trans HbV.out.size (by simp)) ?_; intro v1 w2 hown1 hg1 hat1; have Hg1 := Lib.hid hg1; obtain ⟨AA1, cc1, rfl⟩ := own_form hown1; have Hown1 := Lib.hid hown1; clear hown1 hg1 hat1)
            go_roundw
            case rel =>
              have htl := Htl.out
              refine ⟨k + 1, AA1, cc1, ts ++ [nv], by omega, by go_num, rfl, (HbV.out.alloc HbV.out.size _).grown Hg1.out (Nat.le_trans HbV.out.size (by simp)) (fun q hq => (HownV.out.lt q hq).1), by rw [List.map_append]; exact Hown1.out, by rw [List.length_append, htl]; rfl, fun i hi => ?_⟩
              by_cases hik : i < k
              · rw [List.getElem?_append_left (by rw [htl]; exact hik)]
                exact Hts.out i hik
              · obtain rfl : i = k := by omega
                rw [List.getElem?_append_right (by rw [htl]; exact Nat.le_refl _), htl, Nat.sub_self, Hxe.out]
                simp only [List.getElem?_cons_zero, Option.getD_some]
                omega
            case measure => simp [intOf]; omega
      · have MI : ¬ (0 : Int) < (M : Int) := by omega
        go_upto_region 9 with (fail)
        refine wp_name (fun V => V.heap[wo.heap.size]? = some (.cells #[.int .i64 x.fr, .int .i64 x.to, .int .i64 x.start, .int .i64 x.least, .int .i64 x.most, .int .i64 x.kind] 78 (0, 0)) ∧ Below wo.heap.size wo V) ⟨heap_alloc_new wo _, (Below.refl _ _).alloc (Nat.le_refl _) _⟩ (fun V1 hV => ?_)
        obtain ⟨hv1, hv2⟩ := hV
        have HqV := Lib.hid hv2
        have s3 := box_cells hv1 3
        have s4 := box_cells hv1 4
        simp only [List.getElem?_toArray, List.getElem?_cons_zero, List.getElem?_cons_succ] at s3 s4
        clear hv1 hv2 x0 x1 x2 x3 x4 x5 gc gf
        generalize wo.heap.size = g9 at s3 s4 ⊢
        refine wp_region_noPanic ?_
        refine wp_region_pick [0, 1, 2, 3, 4, 5, 6, 7, 8, 9, 10, 11, 12] [] (fun _ => true) (fun w' => Below V1.heap.size V1 w') (by kernel_rfl) (by kernel_rfl) (fun _ _ _ _ _ h => h) (Below.refl _ _).drew (fun hne => ?_)
        have n0 := fun q : Meets (fun w' => Below V1.heap.size V1 w') => cell_below q.property s3
        have n1 := fun q : Meets (fun w' => Below V1.heap.size V1 w') => cell_below q.property s4
        simp only [pick, pickN, List.filterMap_cons, List.filterMap_nil, List.getElem?_cons_zero, List.getElem?_cons_succ, Option.map_some]
        repeat (change wpQuiet _ _ _ _ (_ :: _) _; go_big_quiet_step (fail))
        refine wpQuiet_nil ?_
        clear n0 n1 hne
        refine wpSeqP_nil ?_
        refine NoPanic.normal ?_
        have hqV : Below wo.heap.size wo V1.drew := HqV.out.drew
        have s3 := cell_below (Below.refl V1.heap.size V1).drew s3
        have s4 := cell_below (Below.refl V1.heap.size V1).drew s4
        obtain ⟨V, hVV⟩ : ∃ V, V = V1.drew := ⟨_, rfl⟩
        rw [← hVV] at hqV s3 s4 ⊢
        clear hVV
        have HbV := Lib.hid (Hbr.out.trans (hqV.mono hsr))
        have HownV := Lib.hid (own_below Hown.out hqV)
        go_wp2_with (at_builtin; refine wpList_append_src _ rfl (.tmp 55) (.tmp 57) 29 rfl w1.heap.size 3 i0 _ 1 8 Tryz.underlying29 hi0 hz0 hz1 hz2 rfl (by omega) _ k _ rfl (HownV.out.alloc _) (some ⟨V.heap.size, 0, none⟩) 1 1 [.int .i64 (x.most)] rfl (src_new V [.int .i64 (x.most)] 3 1 1 rfl) (by simp [Value.oneCell']) (by simp [maxLen]; omega) (by omega) (Nat.le_trans HbV.out.size (by simp)) ?_; intro v1 w2 hown1 hg1 hat1; have Hg1 := Lib.hid hg1; obtain ⟨AA1, cc1, rfl⟩ := own_form hown1; have Hown1 := Lib.hid hown1; clear hown1 hg1 hat1)
        go_roundw
        case rel =>
          have htl := Htl.out
          refine ⟨k + 1, AA1, cc1, ts ++ [x.most], by omega, by go_num, rfl, (HbV.out.alloc HbV.out.size _).grown Hg1.out (Nat.le_trans HbV.out.size (by simp)) (fun q hq => (HownV.out.lt q hq).1), by rw [List.map_append]; exact Hown1.out, by rw [List.length_append, htl]; rfl, fun i hi => ?_⟩
          by_cases hik : i < k
          · rw [List.getElem?_append_left (by rw [htl]; exact hik)]
            exact Hts.out i hik
          · obtain rfl : i = k := by omega
            rw [List.getElem?_append_right (by rw [htl]; exact Nat.le_refl _), htl, Nat.sub_self, Hxe.out]
            simp only [List.getElem?_cons_zero, Option.getD_some]
            omega
        case measure => simp [intOf]; omega
    · obtain rfl : k = N := by omega
      go_wp2
      go_ret
      refine ⟨ts, A', c', (by rw [HN.out]; rfl), by rw [HN.out]; exact Htl.out, by rw [HN.out]; exact Hts.out, ?_, hwo⟩
      rw [HN.out]
      have h := nums_of_own (K := .i64) Hown.out
      exact h
end Go.Proofs.YtckgapeednokjaaGreat
