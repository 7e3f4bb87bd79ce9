import Derived.Test.YtckgapeednokjaaGreatTo
set_option linter.unusedVariables false
set_option linter.unusedSimpArgs false
namespace Go.Proofs.YtckgapeednokjaaGreat
open Go Go.Proofs Go.RowKit

/-! ### run.Cut -/
def GivesCut (t : Tab) (w : World) (e : Ending) (w' : World) : Prop := ∃ (c : List (List Nat)) (A : Option Addr) (k : Nat), e = .returned (.tuple #[.slice A c.length k, .int .i64 0]) ∧ RowsAt w' (.slice A c.length k) (c.map natsI) ∧ IsCut t.trips.length (May t) c ∧ Below w.heap.size w w'
def cutMeas (t : Tab) (s : Value) : Nat := if intOf s < 0 then 0 else (2001 - (tripAt t (intOf s).toNat).start).toNat
theorem cutMeas_neg (t : Tab) : cutMeas t (.int .i64 (-1)) = 0 := rfl
theorem cutMeas_nat (t : Tab) (j : Nat) : cutMeas t (.int .i64 (j : Int)) = (2001 - (tripAt t j).start).toNat := by
  have h : ¬ (intOf (.int .i64 (j : Int))) < 0 := by show ¬ (j : Int) < 0; omega
  unfold cutMeas
  rw [if_neg h]
  rfl
theorem heads_succ (bf : List Int) (k : Nat) : heads bf (k + 1) = heads bf k ++ if bf[k]? = some (-1) then [k] else [] := by
  unfold heads
  rw [List.range_succ, List.filter_append]
  by_cases h : bf[k]? = some (-1)
  · simp [h]
  · simp [h]
theorem restC_get0 (nx : List Int) (k f : Nat) (x : Int) (h : nx[k]? = some x) : restC nx (f + 1) (k : Int) = k :: restC nx f x := by
  rw [restC_pos, h]
  rfl
theorem restC_stop (nx : List Int) (f : Nat) : restC nx f (-1) = [] := restC_neg nx f (by omega)
set_option maxRecDepth 100000 in
set_option maxHeartbeats 6400000 in
theorem Cut_any (t : Tab) (u z : Value) (w : World) (hT : TabAt w u z t) (ht : TabOk t) : Calls Tryz.prog 16 #[.agg #[.int .i64 t.places, .int .i64 t.lay, u, z]] w (GivesCut t w) := by
  obtain ⟨i0, hi0, hz0, hz1, hz2⟩ := info_parts infoI
  obtain ⟨iR, hiR, hy0, hy1, hy2⟩ := info_parts infoR
  obtain ⟨A1, c1, rfl, _, _⟩ := hT.rows.form
  obtain ⟨A2, c2, rfl, _, _⟩ := hT.trips.form
  have hw0 : Below w.heap.size w (w.alloc (.cells #[.int .i64 t.places, .int .i64 t.lay, .slice A1 t.empty.length c1, .slice A2 t.trips.length c2] 58)) := (Below.refl _ _).alloc (Nat.le_refl _) _
  have G0 := Lib.hid (heap_alloc_new w (.cells #[.int .i64 t.places, .int .i64 t.lay, .slice A1 t.empty.length c1, .slice A2 t.trips.length c2] 58 (0, 0)))
  have HT := Lib.hid hT
  have Ht := Lib.hid ht
  have h12 := ht.trips
  clear hT ht
  go_enter Tryz.func16, Tryz.ntmps16
  have gc := box_cells G0.out
  have gf := box_frozen G0.out
  go_wp2_with fail
  refine (checkR_ok t _ _ _ (HT.out.below hw0) Ht.out).mono ?_
  rintro e w1 ⟨rfl, hb1⟩
  have hw1 := hw0.trans (hb1.mono hw0.size)
  have G1 := Lib.hid (box_stepR hb1 G0.out)
  replace gc := box_cells G1.out
  replace gf := box_frozen G1.out
  go_upto_region 4 with (fail)
  go_wp2_with fail
  refine wp_region_noPanic ?_
  refine wp_region_pick [0] [1, 2, 3] (fun _ => true) (fun w' => Below w1.heap.size w1 w') (by kernel_rfl) (by kernel_rfl) (fun _ _ _ _ _ h => h) (Below.refl _ _).drew (fun hne => ?_)
  have n0 := fun x : Meets (fun w' => Below w1.heap.size w1 w') => cell_below x.property (gc 0)
  have n1 := fun x : Meets (fun w' => Below w1.heap.size w1 w') => cell_below x.property (gc 1)
  have n2 := fun x : Meets (fun w' => Below w1.heap.size w1 w') => cell_below x.property (gc 2)
  have n3 := fun x : Meets (fun w' => Below w1.heap.size w1 w') => cell_below x.property (gc 3)
  simp only [pick, pickN, List.filterMap_cons, List.filterMap_nil, List.getElem?_cons_zero, List.getElem?_cons_succ, Option.map_some]
  repeat (change wpQuiet _ _ _ _ (_ :: _) _; go_big_quiet_step (fail))
  refine wpQuiet_nil ?_
  clear n0 n1 n2 n3 hne
  have hb2 : Below w1.heap.size w1 w1.drew := (Below.refl _ _).drew
  have HS2 := Lib.hid hb2
  obtain ⟨w2, hwe2⟩ : ∃ W, W = w1.drew := ⟨_, rfl⟩
  rw [← hwe2] at hb2 HS2 ⊢
  clear hwe2
  have hw2 := hw1.trans (hb2.mono hw1.size)
  have G2 := Lib.hid (box_stepR hb2 G1.out)
  replace gc := box_cells G2.out
  replace gf := box_frozen G2.out
  refine wpSeqP_step (fun K hK => ?_)
  go_simp
  refine (every_any _).mono ?_
  rintro e w3 ⟨rfl, hb3⟩
  have HS3 := Lib.hid (HS2.out.trans (hb3.mono HS2.out.size))
  have hw3 := hw2.trans (hb3.mono hw2.size)
  have G3 := Lib.hid (box_stepR hb3 G2.out)
  replace gc := box_cells G3.out
  replace gf := box_frozen G3.out
  refine hK.out _ _ (fun _ => HS3.out) ?_
  clear hK K
  refine wpSeqP_step (fun K hK => ?_)
  go_simp
  refine (match_any t _ _ _ (HT.out.below hw3) Ht.out).mono ?_
  rintro e w4 ⟨MB, nb, bb, O, uM, zM, nx, bf, rfl, hMB, hnb, hbbk, hinv, hb4⟩
  have HS4 := Lib.hid (HS3.out.trans (hb4.mono HS3.out.size))
  have hw4 := hw3.trans (hb4.mono hw3.size)
  have G4 := Lib.hid (box_stepR hb4 G3.out)
  replace gc := box_cells G4.out
  replace gf := box_frozen G4.out
  have HMB := Lib.hid hMB
  have Hnb := Lib.hid hnb
  have Hbb := Lib.hid hbbk
  have Hinv := Lib.hid hinv
  clear hMB hnb hbbk hinv
  refine hK.out _ _ (fun _ => HS4.out) ?_
  clear hK K
  refine wpSeqP_step (fun K hK => ?_)
  go_simp
  refine hK.out _ _ (fun _ => HS4.out) ?_
  clear hK K
  refine wpSeqP_nil ?_
  refine NoPanic.normal ?_
  obtain ⟨N, hN⟩ : ∃ N, t.trips.length = N := ⟨_, rfl⟩
  have HN := Lib.hid hN
  rw [hN] at HMB Hinv h12
  clear hN gc gf
  have m6 := box_cells HMB.out 6
  simp only [List.getElem?_toArray, List.getElem?_cons_zero, List.getElem?_cons_succ] at m6
  go_wp2
  clear m6
  go_loopw [6, 24] (fun x i wr => ∃ (k n : Nat) (A' : Option Addr) (c' : Nat) (us : List Value), k ≤ N ∧ i = .int .i64 k ∧ n ≤ k ∧ (heads bf k).length = n ∧ x = .slice A' n c' ∧ Below w4.heap.size w4 wr ∧ wr.ownsRow w4.heap.size 29 1 (.slice A' n c') n us ∧ RowsOwn wr w4.heap.size us ((heads bf k).map fun (i : Nat) => natsI (restC nx 3000 (i : Int)))) (fun x i wr => N - (intOf i).toNat)
  case atStart => exact ⟨0, 0, none, 0, [], by omega, rfl, by omega, rfl, rfl, Below.refl _ _, World.ownsRow_nil _ _ _ _, ⟨rfl, fun j l h => (by simp [heads] at h)⟩⟩
  case round =>
    obtain ⟨k, n, A', c', us, hk, rfl, hnk, hhl, rfl, hbr, hown, hro⟩ := hrel
    obtain ⟨wo, rfl⟩ : ∃ wo : World, wo = wr := ⟨_, rfl⟩
    have Hown := Lib.hid hown
    have Hro := Lib.hid hro
    have Hhl := Lib.hid hhl
    have Hbr := Lib.hid hbr
    have hsr := hbr.size
    have hMo := box_stepR hbr HMB.out
    have hno := box_stepR hbr Hnb.out
    have hbo := box_stepR hbr Hbb.out
    have HMo := Lib.hid hMo
    have Hno := Lib.hid hno
    clear hown hro hhl hbr hMo hno
    by_cases hlt : k < N
    · have hkb : k < bf.length := by rw [Hinv.out.lb]; exact hlt
      have b0 := box_cells hbo k
      rw [List.getElem?_toArray, List.getElem?_map, List.getElem?_eq_getElem hkb, Option.map_some] at b0
      have hbk := List.getElem?_eq_getElem hkb
      have hvb := Hinv.out.vb _ (List.getElem_mem hkb)
      obtain ⟨xv, hxv⟩ : ∃ xv, bf[k] = xv := ⟨_, rfl⟩
      rw [hxv] at b0 hbk hvb
      have Hbk := Lib.hid hbk
      clear hbk hxv hkb hbo
      by_cases hx1 : xv = -1
      · subst hx1
        go_wp2
        go_loopw [9, 10] (fun y s wr => ∃ (blk : List Nat) (q : Nat) (B : Option Addr) (cB f : Nat) (kv : Int), blk.length = q ∧ (q : Int) ≤ 2001 ∧ y = .slice B q cB ∧ s = .int .i64 kv ∧ restC nx 3000 (k : Int) = blk ++ restC nx f kv ∧ (kv = -1 ∨ ∃ j : Nat, kv = (j : Int) ∧ j < N ∧ 2001 - (tripAt t j).start ≤ f ∧ (q : Int) ≤ (tripAt t j).start) ∧ Below wo.heap.size wo wr ∧ wr.ownsRow wo.heap.size 3 1 (.slice B q cB) q ((natsI blk).map (.int .i64))) (fun y s wr => cutMeas t s)
        case atStart =>
          have h1 := (Ht.out.at_ (i := k) (by rw [HN.out]; exact hlt)).start
          exact ⟨[], 0, none, 0, 3000, (k : Int), rfl, by omega, rfl, rfl, rfl, .inr ⟨k, rfl, hlt, by omega, by omega⟩, Below.refl _ _, World.ownsRow_nil _ _ _ _⟩
        case round =>
          obtain ⟨blk, q, B, cB, f, kv, hbl, hq20, rfl, rfl, hrest, hkv, hb2, hown2⟩ := hrel
          obtain ⟨wq, rfl⟩ : ∃ wq : World, wq = wr := ⟨_, rfl⟩
          have Hown2 := Lib.hid hown2
          have Hb2 := Lib.hid hb2
          have Hrest := Lib.hid hrest
          have Hbl := Lib.hid hbl
          have hs2 := hb2.size
          have hMq := box_stepR hb2 HMo.out
          have hnq := box_stepR hb2 Hno.out
          clear hown2 hrest hbl hb2
          rcases hkv with rfl | ⟨j, rfl, hjN, hjf, hjq⟩
          · have hblk : restC nx 3000 (k : Int) = blk := by rw [Hrest.out, restC_stop, List.append_nil]
            have Hblk := Lib.hid hblk
            have Hown3 := Lib.hid (own_below Hown.out Hb2.out)
            have Hro3 := Lib.hid (Hro.out.below Hb2.out)
            have Hbq := Lib.hid (Hbr.out.trans (Hb2.out.mono hsr))
            have hsq := Hbq.out.size
            clear hblk hMq hnq
            go_wp2_with (at_builtin; refine wpList_append_src _ rfl (.tmp 45) (.tmp 47) 45 rfl w4.heap.size 29 iR _ 1 24 Tryz.underlying45 hiR hy0 hy1 hy2 rfl (by omega) _ n us rfl (Hown3.out.alloc _) (some ⟨wq.heap.size, 0, none⟩) 1 1 [.slice B q cB] rfl (src_new wq [.slice B q cB] 29 1 1 rfl) (by simp [Value.oneCell']) (by simp [maxLen]; omega) (by omega) (by simp; omega) ?_; intro v2 w2 hown4 hg4 hat4; have Hg4 := Lib.hid hg4; obtain ⟨A4, k4, rfl⟩ := own_form hown4; have Hown4 := Lib.hid hown4; clear hown4 hg4 hat4)
            go_roundw
            case rel =>
              have hh : heads bf (k + 1) = heads bf k ++ [k] := by rw [heads_succ, if_pos Hbk.out]
              have h1 : RowsOwn (wq.alloc (.cells #[.slice B q cB] 29)) w4.heap.size us _ := Hro3.out.below ((Below.refl _ _).alloc (Nat.le_refl _) _)
              have h2 : wq.ownsRow w4.heap.size 3 1 (.slice B q cB) q ((natsI blk).map (.int .i64)) := own_mono Hown2.out hsr
              have h3 := (h2.alloc (.cells #[.slice B q cB] 29)).kept Hg4.out (own_apart h2 Hown3.out (by decide))
              have h4 := (h1.kept (Hown3.out.alloc _) (by decide) Hg4.out).snoc (u := .slice B q cB) (l := natsI blk) (by rw [natsI_len, Hbl.out]; exact h3)
              refine ⟨k + 1, n + 1, A4, k4, us ++ [.slice B q cB], by omega, by go_num, by omega, by rw [hh, List.length_append, Hhl.out]; rfl, rfl, below_grown (Hbq.out.alloc hsq _) Hg4.out (by simp; omega) (Hown3.out.alloc _) (Nat.le_refl _), Hown4.out, ?_⟩
              rw [hh, List.map_append, List.map_singleton, Hblk.out]
              exact h4
            case measure => simp [intOf]; omega
          · have hjn : j < nx.length := by rw [Hinv.out.ln]; exact hjN
            have n0 := box_cells hnq j
            rw [List.getElem?_toArray, List.getElem?_map, List.getElem?_eq_getElem hjn, Option.map_some] at n0
            have hnj := List.getElem?_eq_getElem hjn
            obtain ⟨nv, hnv⟩ : ∃ nv, nx[j] = nv := ⟨_, rfl⟩
            rw [hnv] at n0 hnj
            have Hnj := Lib.hid hnj
            have m5 := box_cells hMq 5
            simp only [List.getElem?_toArray, List.getElem?_cons_zero, List.getElem?_cons_succ] at m5
            have hj1 : ((j : Int) != (-1 : Int)) = true := by simp
            have hMlt : MB < wq.heap.size := (Array.getElem?_eq_some_iff.1 hMq).1
            have hnlt : nb < wq.heap.size := (Array.getElem?_eq_some_iff.1 hnq).1
            have HMq := Lib.hid hMq
            have Hnq := Lib.hid hnq
            clear hnj hnv hjn hMq hnq
            go_wp2_with (at_builtin; refine wpList_append_src _ rfl (.tmp 41) (.tmp 43) 29 rfl wo.heap.size 3 i0 _ 1 8 Tryz.underlying29 hi0 hz0 hz1 hz2 rfl (by omega) _ q _ rfl (Hown2.out.alloc _) (some ⟨wq.heap.size, 0, none⟩) 1 1 [.int .i64 (j : Int)] rfl (src_new wq [.int .i64 (j : Int)] 3 1 1 rfl) (by simp [Value.oneCell']) (by simp [maxLen]; omega) (by omega) (by simp; omega) ?_; intro v2 w2 hown4 hg4 hat4; have hbg := below_grown (Hb2.out.alloc hs2 _) hg4 (by simp; omega) (Hown2.out.alloc _) (Nat.le_refl _); have Hbg := Lib.hid hbg; have p5 := box_cells (box_stepR hbg HMo.out) 5; simp only [List.getElem?_toArray, List.getElem?_cons_zero, List.getElem?_cons_succ] at p5; have p0 := box_cells (box_stepR hbg Hno.out) j; rw [List.getElem?_toArray, List.getElem?_map, Hnj.out, Option.map_some] at p0; obtain ⟨A4, k4, rfl⟩ := own_form hown4; have Hown4 := Lib.hid hown4; clear hown4 hg4 hat4 hbg)
            have hnx := next_cases Hinv.out hjN
            have hst := (Ht.out.at_ (i := j) (by rw [HN.out]; exact hjN)).start
            obtain ⟨f', hf'⟩ : ∃ f', f = f' + 1 := ⟨f - 1, by omega⟩
            have hnew : restC nx 3000 (k : Int) = (blk ++ [j]) ++ restC nx f' nv := by
              rw [Hrest.out, hf', restC_get0 _ _ _ _ Hnj.out]
              simp
            have hnc : nv = -1 ∨ ∃ p : Nat, nv = (p : Int) ∧ p < N ∧ (tripAt t j).start < (tripAt t p).start := by
              rcases hnx with e | ⟨p, e, hpN, _, hm⟩
              · rw [Hnj.out] at e
                exact .inl (Option.some.inj e)
              · rw [Hnj.out] at e
                exact .inr ⟨p, Option.some.inj e, hpN, may_grow Ht.out (by rw [HN.out]; exact hjN) (by rw [HN.out]; exact hpN) hm⟩
            go_roundw
            case rel =>
              refine ⟨blk ++ [j], q + 1, A4, k4, f', nv, by rw [List.length_append, Hbl.out]; rfl, ?_, rfl, rfl, hnew, ?_, Hbg.out, ?_⟩
              · rcases hnc with e | ⟨p, e, hpN, hps⟩
                · omega
                · have := (Ht.out.at_ (i := p) (by rw [HN.out]; exact hpN)).start
                  omega
              · rcases hnc with e | ⟨p, e, hpN, hps⟩
                · exact .inl e
                · exact .inr ⟨p, e, hpN, by omega, by omega⟩
              · have e2 : (natsI (blk ++ [j])).map (Value.int .i64) = (natsI blk).map (.int .i64) ++ [.int .i64 (j : Int)] := by simp [natsI]
                rw [e2]
                exact Hown4.out
            case measure =>
              rcases hnc with rfl | ⟨p, rfl, hpN, hps⟩
              · rw [cutMeas_neg, cutMeas_nat]
                omega
              · rw [cutMeas_nat, cutMeas_nat]
                have := (Ht.out.at_ (i := p) (by rw [HN.out]; exact hpN)).start
                omega
      · have hx2 : (xv != (-1 : Int)) = true := by simpa using hx1
        have hh : heads bf (k + 1) = heads bf k := by
          rw [heads_succ, if_neg, List.append_nil]
          intro e
          rw [Hbk.out] at e
          exact hx1 (Option.some.inj e)
        have Hh := Lib.hid hh
        clear hh
        go_wp2
        go_roundw
        case rel => exact ⟨k + 1, n, A', c', us, by omega, by go_num, by omega, by rw [Hh.out]; exact Hhl.out, rfl, Hbr.out, Hown.out, by rw [Hh.out]; exact Hro.out⟩
        case measure => simp [intOf]; omega
    · obtain rfl : k = N := by omega
      have hcut := cut_is Hinv.out (s := fun i => (tripAt t i).start) (fun j p hj hp h => may_grow Ht.out (by rw [HN.out]; exact hj) (by rw [HN.out]; exact hp) h) (fun j hj => (Ht.out.at_ (i := j) (by rw [HN.out]; exact hj)).start)
      have Hcut := Lib.hid hcut
      have hrows := rows_of_own Hown.out Hro.out
      have e : ((heads bf k).map fun (i : Nat) => natsI (restC nx 3000 (i : Int))) = (chainsL nx bf k).map natsI := by unfold chainsL; rw [List.map_map]; rfl
      rw [e] at hrows
      have hn : (chainsL nx bf k).length = n := by unfold chainsL; rw [List.length_map]; exact Hhl.out
      have Hrows := Lib.hid hrows
      have Hn := Lib.hid hn
      clear hcut hrows e hn
      go_wp2
      go_ret2
      exact ⟨chainsL nx bf k, A', c', by rw [Hn.out]; rfl, by rw [Hn.out]; exact Hrows.out, by rw [HN.out]; exact Hcut.out, hw4.trans (Hbr.out.mono hw4.size)⟩
end Go.Proofs.YtckgapeednokjaaGreat
