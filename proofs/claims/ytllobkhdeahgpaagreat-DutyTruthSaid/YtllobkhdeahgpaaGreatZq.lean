import Derived.Test.YtllobkhdeahgpaaGreatZo
import Derived.Test.YtllobkhdeahgpaaGreatK5
set_option linter.unusedVariables false
set_option linter.unusedSimpArgs false
namespace Go.Proofs.YtllobkhdeahgpaaGreat
open Go Go.Proofs Go.RowKit

/-! ### Tables in a list -/
theorem infoTT : (Tryz.prog.info? 25).map (fun i => (i.zero, i.size, i.bytes)) = some (some (.slice none 0 0), 1, 24) := by kernel_rfl
def TrIn (w : World) (base : Nat) (us : List Value) (T : List (List (List Int))) : Prop := us.length = T.length ∧ ∀ (j : Nat) (tt : List (List Int)), T[j]? = some tt → ∃ u vs, us[j]? = some u ∧ w.ownsRow base 28 1 u tt.length vs ∧ RowsOwn w base vs tt
theorem TrIn.below {w w' : World} {base : Nat} {us : List Value} {T : List (List (List Int))} (h : TrIn w base us T) (hb : Below w.heap.size w w') : TrIn w' base us T :=
  ⟨h.1, fun j l hl => by obtain ⟨u, vs, h1, h2, h3⟩ := h.2 j l hl; exact ⟨u, vs, h1, own_below h2 hb, h3.below hb⟩⟩
theorem TrIn.kept {w w' : World} {base base' n : Nat} {us xs : List Value} {v : Value} {T : List (List (List Int))} (h : TrIn w base us T) (hv : w.ownsRow base' 25 1 v n xs) (hg : w.grownBy w' v.ownBlock) : TrIn w' base us T :=
  ⟨h.1, fun j l hl => by obtain ⟨u, vs, h1, h2, h3⟩ := h.2 j l hl; exact ⟨u, vs, h1, h2.kept hg (own_apart h2 hv (by decide)), h3.kept hv (by decide) hg⟩⟩
theorem TrIn.snoc {w : World} {base : Nat} {us vs : List Value} {T : List (List (List Int))} {u : Value} {tt : List (List Int)} (h : TrIn w base us T) (hu : w.ownsRow base 28 1 u tt.length vs) (hv : RowsOwn w base vs tt) : TrIn w base (us ++ [u]) (T ++ [tt]) := by
  refine ⟨by simp [h.1], fun j l' hl => ?_⟩
  rw [List.getElem?_append] at hl
  split at hl
  · obtain ⟨x, ys, h1, h2⟩ := h.2 j l' hl
    exact ⟨x, ys, by rw [List.getElem?_append_left (by rw [h.1]; assumption)]; exact h1, h2⟩
  · rename_i hj
    have e : j = T.length := by
      have := (List.getElem?_eq_some_iff.1 hl).1
      simp at this
      omega
    subst e
    simp at hl
    subst hl
    exact ⟨u, vs, by rw [← h.1]; simp, hu, hv⟩
theorem TrIn.nil (w : World) (base : Nat) : TrIn w base [] [] := ⟨rfl, fun j l h => by simp at h⟩
theorem TrIn.at_ {w : World} {base : Nat} {us : List Value} {T : List (List (List Int))} {k : Nat} {tt : List (List Int)} (h : TrIn w base us T) (hk : T[k]? = some tt) : ∃ u, us[k]? = some u ∧ RowsAt w u tt := by
  obtain ⟨u, vs, h1, h2, h3⟩ := h.2 k tt hk
  exact ⟨u, h1, rows_of_own h2 h3⟩
/-- The tables of the tries so far. -/
structure Tries (d : DDay) (ps : List Pc) (b i : Nat) (T : List (List (List Int))) : Prop where
  true_ : ∀ tt ∈ T, truthB d.blocks tt = true
  wor : tabL d.blocks (worT d.blocks ps) ∈ T
  pre : ∀ c j, (c < b ∨ (c = b ∧ j < i)) → InDay d c j → tabL d.blocks (preT d.blocks c j) ∈ T
  few : T.length ≤ 3 + 2 * (b * 1000 + i)
theorem tries_more {d : DDay} {ps : List Pc} {b i : Nat} {T : List (List (List Int))} (hd : DayOk d) (h : Tries d ps b i T) (hi : InDay d b i) : Tries d ps b (i + 1) (T ++ [tabL d.blocks (strT d.blocks b i), tabL d.blocks (preT d.blocks b i)]) := by
  refine ⟨fun tt ht => ?_, List.mem_append_left _ h.wor, fun c j hc hj => ?_, by have := h.few; simp; omega⟩
  · rcases List.mem_append.1 ht with ht | ht
    · exact h.true_ tt ht
    · simp only [List.mem_cons, List.not_mem_nil, or_false] at ht
      rcases ht with rfl | rfl
      · exact truth_str hd b i
      · exact truth_pre hd hi
  · by_cases he : c = b ∧ j = i
    · obtain ⟨rfl, rfl⟩ := he
      simp
    · exact List.mem_append_left _ (h.pre c j (by omega) hj)
set_option maxRecDepth 100000 in
theorem tries_next {d : DDay} {ps : List Pc} {b i : Nat} {T : List (List (List Int))} (h : Tries d ps b i T) (hi : i = (d.blocks[b]?.getD []).length) (hl : i ≤ 1000) : Tries d ps (b + 1) 0 T := by
  refine ⟨h.true_, h.wor, fun c j hc hj => h.pre c j ?_ hj, ?_⟩
  rotate_left
  · have h1 := h.few
    have h2 : (b + 1) * 1000 = b * 1000 + 1000 := by rw [Nat.add_mul, Nat.one_mul]
    rw [h2]
    omega
  by_cases he : c = b
  · right
    refine ⟨he, ?_⟩
    have := hj.2
    rw [he] at this
    omega
  · omega
theorem obeys_at {d : DDay} {ps : List Pc} (hps : ∀ p ∈ ps, InDay d p.b p.fr ∧ InDay d p.b p.to) (t : Nat → Nat → Int) : obeysB d (tabT (tabL d.blocks t)) (tabT (tabL d.blocks t)) ps = obeysB d t t ps := by
  have key : ∀ (u v : Nat → Nat → Int), (∀ p ∈ ps, u p.b p.fr = v p.b p.fr ∧ u p.b p.to = v p.b p.to) → obeysB d u u ps = true → obeysB d v v ps = true := fun u v huv h => by
    have he : ∀ qs : List Pc, (∀ p ∈ qs, p ∈ ps) → Easier d d u u v v id qs := fun qs hq => ⟨Int.le_refl _, Int.le_refl _, Int.le_refl _, Int.le_refl _, Int.le_refl _, Int.le_refl _, Int.le_refl _, fun p hp => by rw [id, (huv p (hq p hp)).1]; exact Int.le_refl _,
      fun p hp => by rw [id, (huv p (hq p hp)).2]; exact Int.le_refl _, fun p _ q _ => Int.le_refl _⟩
    by_cases h0 : ps = []
    · subst h0
      have : ∀ u : Nat → Nat → Int, obeysB d u u [] = obeysB d (fun _ _ => 0) (fun _ _ => 0) [] := fun u => rfl
      rw [this v, ← this u]
      exact h
    · have := easier_obeys (he ps fun p hp => hp) h0 h
      rwa [List.map_id] at this
  have hT : ∀ p ∈ ps, tabT (tabL d.blocks t) p.b p.fr = t p.b p.fr ∧ tabT (tabL d.blocks t) p.b p.to = t p.b p.to := fun p hp => ⟨tabL_at (hps p hp).1.1 (hps p hp).1.2, tabL_at (hps p hp).2.1 (hps p hp).2.2⟩
  rw [Bool.eq_iff_iff]
  exact ⟨key _ _ hT, key _ _ fun p hp => ⟨(hT p hp).1.symm, (hT p hp).2.symm⟩⟩
/-- Some of the tries breaks it. -/
theorem tries_break {d : DDay} {l : List Nat} {T : List (List (List Int))} (hd : DayOk d) (hl : IsDuty d l) (hn : legalL d l = false) (h : Tries d (piecesL d l) d.blocks.length 0 T) : ∃ tt ∈ T, obeysB d (tabT tt) (tabT tt) (piecesL d l) = false := by
  have hps := (duty_pcs hd hl).2
  rcases broken_some hd hl hn with hb | ⟨p, hp, hb⟩
  · exact ⟨_, h.wor, by rw [obeys_at hps]; exact hb⟩
  · exact ⟨_, h.pre p.b p.to (.inl (hps p hp).2.1) (hps p hp).2, by rw [obeys_at hps]; exact hb⟩
set_option maxRecDepth 100000 in
set_option maxHeartbeats 12000000 in
theorem broken_any (d : DDay) (u z v : Value) (l : List Nat) (w : World) (hda : DayAt w u z d) (hd : DayOk d) (hv : NumsAt .i64 w v (natsI l)) (hl : IsDuty d l) (hn : legalL d l = false) :
    Calls Tryz.prog 47 #[.agg #[.int .i64 d.law.piece, .int .i64 d.law.drive, .int .i64 d.law.spread, .int .i64 d.law.brk, .int .i64 d.law.on, .int .i64 d.law.off, .int .i64 d.law.least, .int .i64 d.law.pieces, u, z], v] w (Gives w (.bool true)) := by
  obtain ⟨A1, c1, rfl, _, _⟩ := hda.blocks.form
  obtain ⟨A2, c2, rfl, _, _⟩ := hda.walk.form
  obtain ⟨A5, c5, rfl, _, _⟩ := hv.form
  obtain ⟨i1, hi1, hy0, hy1, hy2⟩ := info_parts infoTT
  have hm := day_mild hd
  have hn6 := hd.blocks
  have hdb : dutyB (segN d.blocks) (natsI l) = true := dutyB_iff.2 (dutyI_iff.2 ⟨by rw [natsOf_natsI], by rw [natsOf_natsI]; exact hl⟩)
  have hll : (natsI l).length ≤ 1000 := by have := duty_len hl; have := hd.segs; rw [natsI_len]; omega
  obtain ⟨P, hP⟩ : ∃ P, (natsI l).length = P := ⟨_, rfl⟩
  rw [hP] at hv hll ⊢
  have HP := Lib.hid hP
  have Hda := Lib.hid hda
  have Hd := Lib.hid hd
  have Hm := Lib.hid hm
  have Hv := Lib.hid hv
  have Hl := Lib.hid hl
  have Hn := Lib.hid hn
  have Hdb := Lib.hid hdb
  obtain ⟨ps, hps⟩ : ∃ ps, piecesL d l = ps := ⟨_, rfl⟩
  have Hps := Lib.hid hps
  have HDo := Lib.hid (fun (u z v vt : Value) (tt : List (List Int)) (W : World) (h1 : DayAt W u z d) (h2 : NumsAt .i64 W v (natsI l)) (h3 : RowsAt W vt tt) (h4 : truthB d.blocks tt = true) => (natsOf_natsI l ▸ Do_ok d u z v vt (natsI l) tt W h1 hm h2 (by rw [hP]; exact hll) h3 hd hdb h4 : Calls Tryz.prog 37 #[.agg #[.int .i64 d.law.piece, .int .i64 d.law.drive, .int .i64 d.law.spread, .int .i64 d.law.brk, .int .i64 d.law.on, .int .i64 d.law.off, .int .i64 d.law.least, .int .i64 d.law.pieces, u, z], v, vt] W (GivesDo d (tabT tt) (piecesL d l) W)))
  rw [hps] at HDo
  clear hda hd hm hv hl hn hdb hP hps
  go_enter Tryz.func47, Tryz.ntmps47
  go_upto_region 1 with (fail)
  refine wp_name (fun W => Below w.heap.size w W ∧ W.heap[w.heap.size]? = some (.cells #[.int .i64 d.law.piece, .int .i64 d.law.drive, .int .i64 d.law.spread, .int .i64 d.law.brk, .int .i64 d.law.on, .int .i64 d.law.off, .int .i64 d.law.least, .int .i64 d.law.pieces, .slice A1 d.blocks.length c1, .slice A2 d.walk.length c2] 27 (0, 0))) ⟨(Below.refl _ _).alloc (Nat.le_refl _) _, heap_alloc_new w _⟩ (fun W0 hW => ?_)
  obtain ⟨hb0, hx0⟩ := hW
  have HB0 := Lib.hid hb0
  have HX0 := Lib.hid hx0
  clear hb0 hx0
  have gx := box_cells HX0.out
  refine wp_region_noPanic ?_
  refine wp_region_pick [0, 2, 4, 5] [1, 3, 6, 7, 8] (fun _ => true) (fun w' => Below W0.heap.size W0 w') (by kernel_rfl) (by kernel_rfl) (fun _ _ _ _ _ h => h) (Below.refl _ _).drew (fun hne => ?_)
  have n0 := fun q : Meets (fun w' => Below W0.heap.size W0 w') => cell_below q.property (gx 0)
  have n1 := fun q : Meets (fun w' => Below W0.heap.size W0 w') => cell_below q.property (gx 1)
  have n2 := fun q : Meets (fun w' => Below W0.heap.size W0 w') => cell_below q.property (gx 2)
  have n3 := fun q : Meets (fun w' => Below W0.heap.size W0 w') => cell_below q.property (gx 3)
  have n4 := fun q : Meets (fun w' => Below W0.heap.size W0 w') => cell_below q.property (gx 4)
  have n5 := fun q : Meets (fun w' => Below W0.heap.size W0 w') => cell_below q.property (gx 5)
  have n6 := fun q : Meets (fun w' => Below W0.heap.size W0 w') => cell_below q.property (gx 6)
  have n7 := fun q : Meets (fun w' => Below W0.heap.size W0 w') => cell_below q.property (gx 7)
  have n8 := fun q : Meets (fun w' => Below W0.heap.size W0 w') => cell_below q.property (gx 8)
  have n9 := fun q : Meets (fun w' => Below W0.heap.size W0 w') => cell_below q.property (gx 9)
  simp only [pick, pickN, List.filterMap_cons, List.filterMap_nil, List.getElem?_cons_zero, List.getElem?_cons_succ, Option.map_some]
  repeat (change wpQuiet _ _ _ _ (_ :: _) _; go_big_quiet_step (fail))
  refine wpQuiet_nil ?_
  clear n0 n1 n2 n3 n4 n5 n6 n7 n8 n9 hne
  have Acc0 := Lib.hid (Below.refl W0.heap.size W0).drew
  refine wpSeqP_step (fun K hK => ?_)
  go_simp
  refine (Lows_any d _ _ _ (Hda.out.below (HB0.out.trans (Acc0.out.mono HB0.out.size))) Hm.out).mono ?_
  rintro e x1 ⟨LA, Lc, us1, rfl, ho1, hr1, hb⟩
  rw [lows_tab] at ho1 hr1 ⊢
  rw [tabL_len] at ho1 ⊢
  replace ho1 := own_mono ho1 Acc0.out.size
  replace hr1 := hr1.mono Acc0.out.size
  have Acc1 := Lib.hid (Acc0.out.trans (hb.mono Acc0.out.size))
  refine hK.out _ _ (fun _ => Acc1.out) ?_
  clear hK K hb
  refine wpSeqP_step (fun K hK => ?_)
  go_simp
  refine (Highs_any d _ _ _ (Hda.out.below (HB0.out.trans (Acc1.out.mono HB0.out.size))) Hm.out).mono ?_
  rintro e x2 ⟨MA, Mc, us2, rfl, ho2, hr2, hb⟩
  rw [highs_tab] at ho2 hr2 ⊢
  rw [tabL_len] at ho2 ⊢
  replace ho2 := own_mono ho2 Acc1.out.size
  replace hr2 := hr2.mono Acc1.out.size
  replace ho1 := own_below ho1 hb
  replace hr1 := hr1.below hb
  have Acc2 := Lib.hid (Acc1.out.trans (hb.mono Acc1.out.size))
  refine hK.out _ _ (fun _ => Acc2.out) ?_
  clear hK K hb
  refine wpSeqP_step (fun K hK => ?_)
  go_simp
  refine (worstR_any d _ _ _ l _ (Hda.out.below (HB0.out.trans (Acc2.out.mono HB0.out.size))) Hd.out (Hv.out.below (HB0.out.trans (Acc2.out.mono HB0.out.size))) Hl.out).mono ?_
  rintro e x3 ⟨NA, Nc, us3, rfl, ho3, hr3, hb⟩
  rw [Hps.out] at ho3 hr3
  rw [tabL_len] at ho3 ⊢
  replace ho3 := own_mono ho3 Acc2.out.size
  replace hr3 := hr3.mono Acc2.out.size
  replace ho1 := own_below ho1 hb
  replace hr1 := hr1.below hb
  replace ho2 := own_below ho2 hb
  replace hr2 := hr2.below hb
  have Acc3 := Lib.hid (Acc2.out.trans (hb.mono Acc2.out.size))
  refine hK.out _ _ (fun _ => Acc3.out) ?_
  clear hK K hb
  refine wpSeqP_step (fun K hK => ?_)
  go_simp
  have hbT := Acc3.out.alloc Acc3.out.size (.cells #[.slice LA d.blocks.length Lc, .slice MA d.blocks.length Mc, .slice NA d.blocks.length Nc] 25)
  have hoT := own_mono (World.ownsRow_lit (base := x3.heap.size) (e := 25) (size := 1) x3 #[.slice LA d.blocks.length Lc, .slice MA d.blocks.length Mc, .slice NA d.blocks.length Nc] 3 (Nat.le_refl _) (by simp [maxLen]) (by simp)) Acc3.out.size
  have hin3 : TrIn x3 W0.heap.size ((([] ++ [.slice LA d.blocks.length Lc]) ++ [.slice MA d.blocks.length Mc]) ++ [.slice NA d.blocks.length Nc]) ((([] ++ [tabL d.blocks (loT d.blocks)]) ++ [tabL d.blocks (hiT d.blocks)]) ++ [tabL d.blocks (worT d.blocks ps)]) :=
    (((TrIn.nil _ _).snoc (by rw [tabL_len]; exact ho1) hr1).snoc (by rw [tabL_len]; exact ho2) hr2).snoc (by rw [tabL_len]; exact ho3) hr3
  have hin := hin3.below ((Below.refl x3.heap.size x3).alloc (Nat.le_refl _) (.cells #[.slice LA d.blocks.length Lc, .slice MA d.blocks.length Mc, .slice NA d.blocks.length Nc] 25))
  clear hin3
  have htr : Tries d ps 0 0 ((([] ++ [tabL d.blocks (loT d.blocks)]) ++ [tabL d.blocks (hiT d.blocks)]) ++ [tabL d.blocks (worT d.blocks ps)]) := ⟨fun tt ht => by
      simp only [List.nil_append, List.cons_append, List.mem_cons, List.not_mem_nil, or_false] at ht
      rcases ht with rfl | rfl | rfl
      · exact truth_lows Hd.out
      · exact truth_highs Hd.out
      · exact truth_wor Hd.out ps, by simp, fun c j h _ => by omega, by simp⟩
  refine hK.out _ _ (fun _ => hbT) ?_
  clear hK K hr1 hr2 hr3 ho1 ho2 ho3
  have HbT := Lib.hid hbT
  have HoT := Lib.hid hoT
  have Hin := Lib.hid hin
  have Htr := Lib.hid htr
  clear hbT hoT hin htr
  obtain ⟨W1, hW1⟩ : ∃ V, V = x3.alloc (.cells #[.slice LA d.blocks.length Lc, .slice MA d.blocks.length Mc, .slice NA d.blocks.length Nc] 25) := ⟨_, rfl⟩
  rw [← hW1] at HbT HoT Hin ⊢
  clear hW1
  refine wpSeqP_step (fun K hK => ?_)
  go_simp
  refine hK.out _ _ (fun _ => HbT.out) ?_
  clear hK K
  refine wpSeqP_nil ?_
  refine NoPanic.normal ?_
  clear gx
  go_wp2
  go_loopw [5, 6] (fun v s wr => ∃ (b : Nat) (A : Option Addr) (c n : Nat) (us : List Value) (T : List (List (List Int))), b ≤ d.blocks.length ∧ v = .slice A n c ∧ s = .int .i64 (b : Int) ∧ Below W0.heap.size W0 wr ∧ wr.ownsRow W0.heap.size 25 1 (.slice A n c) n us ∧ TrIn wr W0.heap.size us T ∧ Tries d ps b 0 T) (fun v s wr => d.blocks.length - (intOf s).toNat)
  case atStart => exact ⟨0, _, _, 3, _, _, by omega, rfl, rfl, HbT.out, HoT.out, Hin.out, Htr.out⟩
  case round =>
    obtain ⟨b, A, c, n, us, T, hb, rfl, rfl, hbr, hor, hin, htr⟩ := hrel
    have Hbr := Lib.hid hbr
    have Hor := Lib.hid hor
    have Hin := Lib.hid hin
    have Htr := Lib.hid htr
    have hxr := Lib.hid ((hbr.block _ (Array.getElem?_eq_some_iff.1 HX0.out).1).trans HX0.out)
    have gx := box_cells hxr.out 8
    clear hbr hor hin htr
    by_cases hlt : b < d.blocks.length
    · have bI : (b : Int) < (d.blocks.length : Int) := by omega
      have hl1 := List.getElem?_eq_getElem hlt
      obtain ⟨N, hN⟩ : ∃ N, (d.blocks[b]?.getD []).length = N := ⟨_, rfl⟩
      have hN1 : N ≤ 1000 := by rw [← hN, hl1]; exact Hm.out.block b _ hl1
      have HN := Lib.hid hN
      clear hN hl1
      obtain ⟨W2, hW2⟩ : ∃ V, V = wr := ⟨_, rfl⟩
      rw [← hW2] at Hbr Hor Hin gx ⊢
      clear hW2 hxr
      go_wp2
      clear gx
      go_loopw [5, 7] (fun v s wr => ∃ (i : Nat) (A : Option Addr) (c n : Nat) (us : List Value) (T : List (List (List Int))), i ≤ N ∧ v = .slice A n c ∧ s = .int .i64 (i : Int) ∧ Below W0.heap.size W0 wr ∧ wr.ownsRow W0.heap.size 25 1 (.slice A n c) n us ∧ TrIn wr W0.heap.size us T ∧ Tries d ps b i T) (fun v s wr => N - (intOf s).toNat)
      case atStart => exact ⟨0, A, c, n, us, T, by omega, rfl, rfl, Hbr.out, Hor.out, Hin.out, Htr.out⟩
      case round =>
        obtain ⟨i, A, c, n, us, T, hi, rfl, rfl, hbr, hor, hin, htr⟩ := hrel
        have hxr := Lib.hid ((hbr.block _ (Array.getElem?_eq_some_iff.1 HX0.out).1).trans HX0.out)
        have gx := box_cells hxr.out
        have hbw := HB0.out.trans (hbr.mono HB0.out.size)
        obtain ⟨b2, o2, l2, u2, ea, hl2, c0, hrl, _⟩ := (Hda.out.blocks.below hbw).at_ (k := b) hlt
        subst ea
        obtain ⟨A3, c4, rfl, _, _⟩ := hrl.form
        have hN2 : l2.length = N := by rw [← HN.out, hl2]; rfl
        rw [hN2] at c0
        have g8 := gx 8
        have Hbr := Lib.hid hbr
        have Hor := Lib.hid hor
        have Hin := Lib.hid hin
        have Htr := Lib.hid htr
        have hnT : n = T.length := by rw [← hin.1]; simpa using hor.1.symm
        have hTf := htr.few
        clear hrl hl2 hN2 hbw hor hin htr
        by_cases hli : i < N
        · have iI : (i : Int) < (N : Int) := by omega
          have hid : InDay d b i := ⟨hlt, by rw [HN.out]; exact hli⟩
          have Hid := Lib.hid hid
          have hTb : n ≤ 100000 := by omega
          have hnT2 := Lib.hid hnT
          clear hid hbr hnT hTf
          go_upto_region 8 with (fail)
          refine wp_region_noPanic ?_
          refine wp_region_pick [0, 1, 2, 3, 5, 6, 7] [4, 8, 9, 10, 11] (fun _ => true) (fun w' => Below W0.heap.size W0 w') (by kernel_rfl) (by kernel_rfl) (fun _ _ _ _ _ h => h) Hbr.out.drew (fun hne => ?_)
          have HX0c := box_cells HX0.out
          have n0 := fun q : Meets (fun w' => Below W0.heap.size W0 w') => cell_below q.property (HX0c 0)
          have n1 := fun q : Meets (fun w' => Below W0.heap.size W0 w') => cell_below q.property (HX0c 1)
          have n2 := fun q : Meets (fun w' => Below W0.heap.size W0 w') => cell_below q.property (HX0c 2)
          have n3 := fun q : Meets (fun w' => Below W0.heap.size W0 w') => cell_below q.property (HX0c 3)
          have n4 := fun q : Meets (fun w' => Below W0.heap.size W0 w') => cell_below q.property (HX0c 4)
          have n5 := fun q : Meets (fun w' => Below W0.heap.size W0 w') => cell_below q.property (HX0c 5)
          have n6 := fun q : Meets (fun w' => Below W0.heap.size W0 w') => cell_below q.property (HX0c 6)
          have n7 := fun q : Meets (fun w' => Below W0.heap.size W0 w') => cell_below q.property (HX0c 7)
          have n8 := fun q : Meets (fun w' => Below W0.heap.size W0 w') => cell_below q.property (HX0c 8)
          have n9 := fun q : Meets (fun w' => Below W0.heap.size W0 w') => cell_below q.property (HX0c 9)
          simp only [pick, pickN, List.filterMap_cons, List.filterMap_nil, List.getElem?_cons_zero, List.getElem?_cons_succ, Option.map_some]
          repeat (change wpQuiet _ _ _ _ (_ :: _) _; go_big_quiet_step (fail))
          refine wpQuiet_nil ?_
          clear n0 n1 n2 n3 n4 n5 n6 n7 n8 n9 hne
          clear gx g8 c0 HX0c
          have Ho0 := Lib.hid (own_below Hor.out (Below.refl wr.heap.size wr).drew)
          have Hi0 := Lib.hid (Hin.out.below (Below.refl wr.heap.size wr).drew)
          have Ac0 := Lib.hid Hbr.out.drew
          obtain ⟨V0, hV0⟩ : ∃ V, V = wr.drew := ⟨_, rfl⟩
          rw [← hV0] at Ho0 Hi0 Ac0 ⊢
          clear hV0 hxr
          refine wpSeqP_step (fun K hK => ?_)
          go_simp
          refine (stretched_any d _ _ b i _ (Hda.out.below (HB0.out.trans (Ac0.out.mono HB0.out.size))) Hd.out Hid.out).mono ?_
          rintro e x1 ⟨SA, Sc, uS, rfl, hs1, hq1, hb1⟩
          rw [tabL_len] at hs1 ⊢
          replace hs1 := own_mono hs1 Ac0.out.size
          replace hq1 := hq1.mono Ac0.out.size
          have Ac1 := Lib.hid (Ac0.out.trans (hb1.mono Ac0.out.size))
          have Ho1 := Lib.hid (own_below Ho0.out hb1)
          have Hi1 := Lib.hid (Hi0.out.below hb1)
          refine hK.out _ _ (fun _ => Ac1.out) ?_
          clear hK K hb1
          refine wpSeqP_step (fun K hK => ?_)
          go_simp
          refine (pressed_any d _ _ b i _ (Hda.out.below (HB0.out.trans (Ac1.out.mono HB0.out.size))) Hd.out Hid.out).mono ?_
          rintro e x2 ⟨PA, Pc', uP, rfl, hs2, hq2, hb2⟩
          rw [tabL_len] at hs2 ⊢
          replace hs2 := own_mono hs2 Ac1.out.size
          replace hq2 := hq2.mono Ac1.out.size
          replace hs1 := own_below hs1 hb2
          replace hq1 := hq1.below hb2
          have Ac2 := Lib.hid (Ac1.out.trans (hb2.mono Ac1.out.size))
          have Ho2 := Lib.hid (own_below Ho1.out hb2)
          have Hi2 := Lib.hid (Hi1.out.below hb2)
          refine hK.out _ _ (fun _ => Ac2.out) ?_
          clear hK K hb2
          refine wpSeqP_step (fun K hK => ?_)
          go_simp
          have Ac3 := Lib.hid (Ac2.out.alloc Ac2.out.size (.cells #[.slice SA d.blocks.length Sc, .slice PA d.blocks.length Pc'] 25))
          have hba := (Below.refl x2.heap.size x2).alloc (Nat.le_refl _) (.cells #[.slice SA d.blocks.length Sc, .slice PA d.blocks.length Pc'] 25)
          have Ho3 := Lib.hid (own_below Ho2.out hba)
          have Hs3 := Lib.hid (src_new x2 [.slice SA d.blocks.length Sc, .slice PA d.blocks.length Pc'] 25 2 1 rfl)
          have Hi3 := Lib.hid (((Hi2.out.snoc (u := .slice SA d.blocks.length Sc) (tt := tabL d.blocks (strT d.blocks b i)) (by rw [tabL_len]; exact hs1) hq1).snoc (u := .slice PA d.blocks.length Pc') (tt := tabL d.blocks (preT d.blocks b i)) (by rw [tabL_len]; exact hs2) hq2).below hba)
          refine hK.out _ _ (fun _ => Ac3.out) ?_
          clear hK K hba hs1 hs2 hq1 hq2
          refine wpSeqP_step (fun K hK => ?_)
          refine step_append_src _ rfl (.tmp 36) (.tmp 45) 128 rfl W0.heap.size 25 i1 _ 1 24 Tryz.underlying128 hi1 hy0 hy1 hy2 rfl (by omega) _ n _ rfl Ho3.out (some ⟨x2.heap.size, 0, none⟩) 2 2 [.slice SA d.blocks.length Sc, .slice PA d.blocks.length Pc'] rfl Hs3.out (by simp [Value.oneCell']) (by unfold maxLen; omega) (by omega) Ac3.out.size ?_
          intro A4 k4 x4 hown4 hg4 _
          have Ac4 := Lib.hid (below_grown Ac3.out hg4 Ac3.out.size Ho3.out (Nat.le_refl _))
          have Hi4 := Lib.hid (Hi3.out.kept Ho3.out hg4)
          have Ho4 := Lib.hid hown4
          have Htr4 := Lib.hid (tries_more Hd.out Htr.out Hid.out)
          refine hK.out _ _ (fun _ => Ac4.out) ?_
          clear hK K hown4 hg4
          refine wpSeqP_step (fun K hK => ?_)
          go_simp
          refine hK.out _ _ (fun _ => Ac4.out) ?_
          clear hK K
          refine wpSeqP_nil ?_
          refine NoPanic.normal ?_
          go_wp2
          go_roundw
          case rel =>
            refine ⟨i + 1, A4, k4, n + 2, _, _, by omega, rfl, by go_num, Ac4.out, Ho4.out, ?_, Htr4.out⟩
            have := Hi4.out
            simpa using this
          case measure => simp [intOf]; omega
        · have iI : ¬ (i : Int) < (N : Int) := by omega
          have hie : i = (d.blocks[b]?.getD []).length := by rw [HN.out]; omega
          have Htr4 := Lib.hid (tries_next Htr.out hie (by omega))
          clear hie hbr
          go_wp2
          go_roundw
          case rel => exact ⟨b + 1, A, c, n, us, T, by omega, rfl, by go_num, Hbr.out, Hor.out, Hin.out, Htr4.out⟩
          case measure => simp [intOf]; omega
    · have bI : ¬ (b : Int) < (d.blocks.length : Int) := by omega
      have hbe : b = d.blocks.length := by omega
      subst hbe
      obtain ⟨tb, htb, hob⟩ := tries_break Hd.out Hl.out Hn.out (Hps.out.symm ▸ Htr.out)
      rw [Hps.out] at hob
      obtain ⟨kb, hkb⟩ := List.getElem?_of_mem htb
      have hkn : kb < n := by
        have h1 := (List.getElem?_eq_some_iff.1 hkb).1
        have h2 : us.length = n := by simpa using Hor.out.1
        have h3 := Hin.out.1
        omega
      have hnT : n = T.length := by
        have h2 : us.length = n := by simpa using Hor.out.1
        have h3 := Hin.out.1
        omega
      have hTb : n ≤ 100000 := by have := Htr.out.few; omega
      have Hkb := Lib.hid hkb
      have Hob := Lib.hid hob
      have HnT := Lib.hid hnT
      clear htb hob hkb hnT
      obtain ⟨gT, rfl⟩ : ∃ gT, A = some ⟨gT, 0, none⟩ := by
        rcases Hor.out.2 with ⟨_, h0⟩ | ⟨gT, cap, cur, e9, _⟩
        · omega
        · cases e9; exact ⟨gT, rfl⟩
      obtain ⟨W3, hW3⟩ : ∃ V, V = wr := ⟨_, rfl⟩
      rw [← hW3] at Hbr Hor Hin gx ⊢
      clear hW3 hxr
      go_wp2
      clear gx
      go_loopw [8] (fun s wr => ∃ k : Nat, k ≤ n ∧ s = .int .i64 (k : Int) ∧ Below W3.heap.size W3 wr ∧ ∀ j, j < k → ∀ tt, T[j]? = some tt → obeysB d (tabT tt) (tabT tt) ps = true) (fun s wr => n - (intOf s).toNat)
      case atStart => exact ⟨0, by omega, rfl, Below.refl _ _, fun j h => by omega⟩
      case round =>
        obtain ⟨k, hk, rfl, hbk, hall⟩ := hrel
        have Hall := Lib.hid hall
        have Hbk := Lib.hid hbk
        have HbK := Lib.hid (HB0.out.trans ((Hbr.out.trans (hbk.mono Hbr.out.size)).mono HB0.out.size))
        clear hall
        by_cases hlk : k < n
        · have kI : (k : Int) < (n : Int) := by omega
          obtain ⟨tt, htt⟩ : ∃ tt, T[k]? = some tt := ⟨_, List.getElem?_eq_getElem (by have := HnT.out; omega)⟩
          obtain ⟨u, hu, hru⟩ := Hin.out.at_ htt
          have Htt := Lib.hid htt
          have Httr := Lib.hid (Htr.out.true_ tt (List.mem_of_getElem? htt))
          have hcu := cell_below hbk ((Hor.out.cellAt k (by omega)).trans hu)
          have Hru := Lib.hid (hru.below hbk)
          obtain ⟨uA, uc, rfl, _, _⟩ := hru.form
          have hxk := ((Hbr.out.trans (hbk.mono Hbr.out.size)).block _ (Array.getElem?_eq_some_iff.1 HX0.out).1).trans HX0.out
          have gx := box_cells hxk
          obtain ⟨ob, hob⟩ : ∃ ob, obeysB d (tabT tt) (tabT tt) ps = ob := ⟨_, rfl⟩
          have Hob2 := Lib.hid hob
          clear htt hu hru hxk hbk hob
          go_upto_region 12 with (fail)
          go_cut [9, 10] from 47 to 69 (fun y e wx => ∃ (G : Nat) (dr sp : Int) (bv : Value), y = .pointer (some ⟨G, 0, none⟩) ∧ e = .int .i64 0 ∧ Below wr.heap.size wr wx ∧ wx.heap[G]? = some (.cells #[.int .i64 dr, .int .i64 sp, bv, .bool ob] 63 (0, 0)))
          case first =>
            refine wp_region_noPanic ?_
            refine wp_region_pickA [0, 2, 4, 5, 6, 7] 9 (fun _ => true) (fun w' => Below wr.heap.size wr w') (by kernel_rfl) (by kernel_rfl) (fun _ _ _ _ _ h => h) (Below.refl _ _).drew (fun hne => ?_)
            have n0 := fun q : Meets (fun w' => Below wr.heap.size wr w') => cell_below q.property (gx 0)
            have n1 := fun q : Meets (fun w' => Below wr.heap.size wr w') => cell_below q.property (gx 1)
            have n2 := fun q : Meets (fun w' => Below wr.heap.size wr w') => cell_below q.property (gx 2)
            have n3 := fun q : Meets (fun w' => Below wr.heap.size wr w') => cell_below q.property (gx 3)
            have n4 := fun q : Meets (fun w' => Below wr.heap.size wr w') => cell_below q.property (gx 4)
            have n5 := fun q : Meets (fun w' => Below wr.heap.size wr w') => cell_below q.property (gx 5)
            have n6 := fun q : Meets (fun w' => Below wr.heap.size wr w') => cell_below q.property (gx 6)
            have n7 := fun q : Meets (fun w' => Below wr.heap.size wr w') => cell_below q.property (gx 7)
            have n8 := fun q : Meets (fun w' => Below wr.heap.size wr w') => cell_below q.property (gx 8)
            have n9 := fun q : Meets (fun w' => Below wr.heap.size wr w') => cell_below q.property (gx 9)
            have n10 := fun q : Meets (fun w' => Below wr.heap.size wr w') => cell_below q.property hcu
            simp only [pick, pickN, List.filterMap_cons, List.filterMap_nil, List.getElem?_cons_zero, List.getElem?_cons_succ, Option.map_some]
            repeat (change wpQuiet _ _ _ _ (_ :: _) _; go_big_quiet_step (fail))
            refine wpQuiet_nil ?_
            clear n0 n1 n2 n3 n4 n5 n6 n7 n8 n9 n10 hne gx hcu
            have hruV := Hru.out.below (Below.refl wr.heap.size wr).drew
            have Acw := Lib.hid (Below.refl wr.heap.size wr).drew
            obtain ⟨v0, hv0⟩ : ∃ V, V = wr.drew := ⟨_, rfl⟩
            rw [← hv0] at hruV Acw ⊢
            clear hv0
            refine wpAnyF_two (i := 1) (j := 12) (by kernel_rfl) rfl rfl (fun K hK => ?_) (fun K hK => ?_)
            · skip
              go_simp
              refine (DayC_any d _ _ _ (Hda.out.below (HbK.out.trans (Acw.out.mono HbK.out.size))) Hm.out).mono ?_
              rintro e v1 ⟨dA, dB, dc, de, rfl, hdC, hb1⟩
              replace hruV := hruV.below hb1
              have Ac1 := Lib.hid (Acw.out.trans (hb1.mono Acw.out.size))
              refine hK.out _ _ (fun _ => Ac1.out) ?_
              clear hK K hb1
              refine wpAnyF_two (i := 3) (j := 12) (by kernel_rfl) rfl rfl (fun K hK => ?_) (fun K hK => ?_)
              · skip
                go_simp
                refine (copy_any _ (natsI l) _ (Hv.out.below (HbK.out.trans (Ac1.out.mono HbK.out.size))) (by rw [HP.out]; omega)).mono ?_
                rintro e v2 ⟨lA, lc, rfl, hlo, hb2⟩
                have hlN := nums_of_own (K := .i64) hlo
                rw [HP.out] at hlN ⊢
                clear hlo
                replace hruV := hruV.below hb2
                replace hdC := hdC.below hb2
                have Ac2 := Lib.hid (Ac1.out.trans (hb2.mono Ac1.out.size))
                refine hK.out _ _ (fun _ => Ac2.out) ?_
                clear hK K hb2
                refine wpAnyF_two (i := 8) (j := 12) (by kernel_rfl) rfl rfl (fun K hK => ?_) (fun K hK => ?_)
                · skip
                  go_simp
                  refine (HDo.out _ _ _ _ tt _ hdC hlN hruV Httr.out).mono ?_
                  rintro e v3 ⟨bA, bc, rfl, _, hb3⟩
                  rw [Hob2.out]
                  replace hruV := hruV.below hb3
                  replace hdC := hdC.below hb3
                  replace hlN := hlN.below hb3
                  have Ac3 := Lib.hid (Ac2.out.trans (hb3.mono Ac2.out.size))
                  refine hK.out _ _ (fun _ => Ac3.out) ?_
                  clear hK K hb3
                  refine wpAnyF_pick (by kernel_rfl) (fun _ _ _ _ _ h => h) 3 [9, 10, 11] _ _ _ (by kernel_rfl) Ac3.out ?_
                  have hne2 : Nonempty (Meets (fun w' => Below wr.heap.size wr w')) := ⟨⟨_, Ac3.out⟩⟩
                  simp only [pick, List.filterMap_cons, List.filterMap_nil, List.getElem?_cons_zero, List.getElem?_cons_succ]
                  repeat (change wpQuiet _ _ _ _ (_ :: _) _; go_big_quiet_step (fail))
                  refine wpQuiet_nil ?_
                  clear hne2
                  refine wpAnyF_one (i := 12) (by kernel_rfl) rfl (fun K hK => ?_)
                  go_simp
                  have Ac4 := Lib.hid (Ac3.out.alloc Ac3.out.size (.cells #[.int .i64 0, .int .i64 0, .slice none 0 0, .bool false] 63))
                  have hal4 := (Below.refl (v3).heap.size (v3)).alloc (Nat.le_refl _) (.cells #[.int .i64 0, .int .i64 0, .slice none 0 0, .bool false] 63)
                  replace hruV := hruV.below hal4
                  replace hdC := hdC.below hal4
                  replace hlN := hlN.below hal4
                  have hG : ((v3).alloc (.cells #[.int .i64 0, .int .i64 0, .slice none 0 0, .bool false] 63)).heap[(v3).heap.size]? = some (.cells #[.int .i64 0, .int .i64 0, .slice none 0 0, .bool false] 63 (0, 0)) := heap_alloc_new _ _
                  have hGl : wr.heap.size ≤ (v3).heap.size := Ac3.out.size
                  refine hK.out _ _ (fun _ => Ac4.out) ?_
                  clear hK K hal4
                  obtain ⟨v4, hv4⟩ : ∃ V, V = (v3).alloc (.cells #[.int .i64 0, .int .i64 0, .slice none 0 0, .bool false] 63) := ⟨_, rfl⟩
                  obtain ⟨G, hGe⟩ : ∃ G, G = (v3).heap.size := ⟨_, rfl⟩
                  rw [← hv4] at Ac4 hG hruV hdC hlN ⊢
                  rw [← hGe] at hG hGl ⊢
                  clear hv4 hGe
                  refine wpAnyF_one (i := 13) (by kernel_rfl) rfl (fun K hK => ?_)
                  have q1 := box_cells hG
                  have q2 := box_frozen hG
                  go_simp
                  have hBs := ((((Ac4.out.setCell (p := ⟨G, 0, none⟩) hGl (.int .i64 (driveP (tabT tt) (tabT tt) ps))).setCell (p := ⟨G, 1, none⟩) hGl (.int .i64 (spreadP d (tabT tt) (tabT tt) ps))).setCell (p := ⟨G, 2, none⟩) hGl (.slice bA (ps.length - 1) bc)).setCell (p := ⟨G, 3, none⟩) hGl (.bool ob))
                  have hG2 := blk_set (blk_set (blk_set (blk_set hG (o := 0) (.int .i64 (driveP (tabT tt) (tabT tt) ps))) (o := 1) (.int .i64 (spreadP d (tabT tt) (tabT tt) ps))) (o := 2) (.slice bA (ps.length - 1) bc)) (o := 3) (.bool ob)
                  refine hK.out _ _ (fun _ => hBs) ?_
                  clear hK K q1 q2
                  simp only [List.setIfInBounds_toArray, List.set_cons_succ, List.set_cons_zero] at hG2
                  refine wpAnyF_one (i := 14) (by kernel_rfl) rfl (fun K hK => ?_)
                  go_simp
                  refine hK.out _ _ (fun _ => hBs) ?_
                  clear hK K
                  refine wpAnyF_done (by kernel_rfl) ?_ _
                  refine NoPanic.normal ?_
                  go_wp2_with fail
                  go_meet
                  case rel => exact ⟨G, _, _, _, rfl, rfl, hBs, hG2⟩
                · skip
                  go_simp
                  have Ac4 := Lib.hid (Ac2.out.alloc Ac2.out.size (.cells #[.int .i64 0, .int .i64 0, .slice none 0 0, .bool false] 63))
                  have hal4 := (Below.refl (v2).heap.size (v2)).alloc (Nat.le_refl _) (.cells #[.int .i64 0, .int .i64 0, .slice none 0 0, .bool false] 63)
                  replace hruV := hruV.below hal4
                  replace hdC := hdC.below hal4
                  replace hlN := hlN.below hal4
                  have hG : ((v2).alloc (.cells #[.int .i64 0, .int .i64 0, .slice none 0 0, .bool false] 63)).heap[(v2).heap.size]? = some (.cells #[.int .i64 0, .int .i64 0, .slice none 0 0, .bool false] 63 (0, 0)) := heap_alloc_new _ _
                  have hGl : wr.heap.size ≤ (v2).heap.size := Ac2.out.size
                  refine hK.out _ _ (fun _ => Ac4.out) ?_
                  clear hK K hal4
                  obtain ⟨v4, hv4⟩ : ∃ V, V = (v2).alloc (.cells #[.int .i64 0, .int .i64 0, .slice none 0 0, .bool false] 63) := ⟨_, rfl⟩
                  obtain ⟨G, hGe⟩ : ∃ G, G = (v2).heap.size := ⟨_, rfl⟩
                  rw [← hv4] at Ac4 hG hruV hdC hlN ⊢
                  rw [← hGe] at hG hGl ⊢
                  clear hv4 hGe
                  refine wpAnyF_one (i := 8) (by kernel_rfl) rfl (fun K hK => ?_)
                  go_simp
                  refine (HDo.out _ _ _ _ tt _ hdC hlN hruV Httr.out).mono ?_
                  rintro e v5 ⟨bA, bc, rfl, _, hb5⟩
                  rw [Hob2.out]
                  replace hruV := hruV.below hb5
                  replace hdC := hdC.below hb5
                  replace hlN := hlN.below hb5
                  replace hG := (hb5.block _ (Array.getElem?_eq_some_iff.1 hG).1).trans hG
                  have Ac5 := Lib.hid (Ac4.out.trans (hb5.mono Ac4.out.size))
                  refine hK.out _ _ (fun _ => Ac5.out) ?_
                  clear hK K hb5
                  refine wpAnyF_pick (by kernel_rfl) (fun _ _ _ _ _ h => h) 2 [9, 10, 11] _ _ _ (by kernel_rfl) Ac5.out ?_
                  have hne2 : Nonempty (Meets (fun w' => Below wr.heap.size wr w')) := ⟨⟨_, Ac5.out⟩⟩
                  simp only [pick, List.filterMap_cons, List.filterMap_nil, List.getElem?_cons_zero, List.getElem?_cons_succ]
                  repeat (change wpQuiet _ _ _ _ (_ :: _) _; go_big_quiet_step (fail))
                  refine wpQuiet_nil ?_
                  clear hne2
                  refine wpAnyF_one (i := 13) (by kernel_rfl) rfl (fun K hK => ?_)
                  have q1 := box_cells hG
                  have q2 := box_frozen hG
                  go_simp
                  have hBs := ((((Ac5.out.setCell (p := ⟨G, 0, none⟩) hGl (.int .i64 (driveP (tabT tt) (tabT tt) ps))).setCell (p := ⟨G, 1, none⟩) hGl (.int .i64 (spreadP d (tabT tt) (tabT tt) ps))).setCell (p := ⟨G, 2, none⟩) hGl (.slice bA (ps.length - 1) bc)).setCell (p := ⟨G, 3, none⟩) hGl (.bool ob))
                  have hG2 := blk_set (blk_set (blk_set (blk_set hG (o := 0) (.int .i64 (driveP (tabT tt) (tabT tt) ps))) (o := 1) (.int .i64 (spreadP d (tabT tt) (tabT tt) ps))) (o := 2) (.slice bA (ps.length - 1) bc)) (o := 3) (.bool ob)
                  refine hK.out _ _ (fun _ => hBs) ?_
                  clear hK K q1 q2
                  simp only [List.setIfInBounds_toArray, List.set_cons_succ, List.set_cons_zero] at hG2
                  refine wpAnyF_one (i := 14) (by kernel_rfl) rfl (fun K hK => ?_)
                  go_simp
                  refine hK.out _ _ (fun _ => hBs) ?_
                  clear hK K
                  refine wpAnyF_done (by kernel_rfl) ?_ _
                  refine NoPanic.normal ?_
                  go_wp2_with fail
                  go_meet
                  case rel => exact ⟨G, _, _, _, rfl, rfl, hBs, hG2⟩
              · skip
                go_simp
                have Ac6 := Lib.hid (Ac1.out.alloc Ac1.out.size (.cells #[.int .i64 0, .int .i64 0, .slice none 0 0, .bool false] 63))
                have hal6 := (Below.refl (v1).heap.size (v1)).alloc (Nat.le_refl _) (.cells #[.int .i64 0, .int .i64 0, .slice none 0 0, .bool false] 63)
                replace hruV := hruV.below hal6
                replace hdC := hdC.below hal6
                have hG : ((v1).alloc (.cells #[.int .i64 0, .int .i64 0, .slice none 0 0, .bool false] 63)).heap[(v1).heap.size]? = some (.cells #[.int .i64 0, .int .i64 0, .slice none 0 0, .bool false] 63 (0, 0)) := heap_alloc_new _ _
                have hGl : wr.heap.size ≤ (v1).heap.size := Ac1.out.size
                refine hK.out _ _ (fun _ => Ac6.out) ?_
                clear hK K hal6
                obtain ⟨v6, hv6⟩ : ∃ V, V = (v1).alloc (.cells #[.int .i64 0, .int .i64 0, .slice none 0 0, .bool false] 63) := ⟨_, rfl⟩
                obtain ⟨G, hGe⟩ : ∃ G, G = (v1).heap.size := ⟨_, rfl⟩
                rw [← hv6] at Ac6 hG hruV hdC ⊢
                rw [← hGe] at hG hGl ⊢
                clear hv6 hGe
                refine wpAnyF_one (i := 3) (by kernel_rfl) rfl (fun K hK => ?_)
                go_simp
                refine (copy_any _ (natsI l) _ (Hv.out.below (HbK.out.trans (Ac6.out.mono HbK.out.size))) (by rw [HP.out]; omega)).mono ?_
                rintro e v7 ⟨lA, lc, rfl, hlo, hb7⟩
                have hlN := nums_of_own (K := .i64) hlo
                rw [HP.out] at hlN ⊢
                clear hlo
                replace hruV := hruV.below hb7
                replace hdC := hdC.below hb7
                replace hG := (hb7.block _ (Array.getElem?_eq_some_iff.1 hG).1).trans hG
                have Ac7 := Lib.hid (Ac6.out.trans (hb7.mono Ac6.out.size))
                refine hK.out _ _ (fun _ => Ac7.out) ?_
                clear hK K hb7
                refine wpAnyF_one (i := 8) (by kernel_rfl) rfl (fun K hK => ?_)
                go_simp
                refine (HDo.out _ _ _ _ tt _ hdC hlN hruV Httr.out).mono ?_
                rintro e v8 ⟨bA, bc, rfl, _, hb8⟩
                rw [Hob2.out]
                replace hruV := hruV.below hb8
                replace hdC := hdC.below hb8
                replace hlN := hlN.below hb8
                replace hG := (hb8.block _ (Array.getElem?_eq_some_iff.1 hG).1).trans hG
                have Ac8 := Lib.hid (Ac7.out.trans (hb8.mono Ac7.out.size))
                refine hK.out _ _ (fun _ => Ac8.out) ?_
                clear hK K hb8
                refine wpAnyF_pick (by kernel_rfl) (fun _ _ _ _ _ h => h) 2 [9, 10, 11] _ _ _ (by kernel_rfl) Ac8.out ?_
                have hne2 : Nonempty (Meets (fun w' => Below wr.heap.size wr w')) := ⟨⟨_, Ac8.out⟩⟩
                simp only [pick, List.filterMap_cons, List.filterMap_nil, List.getElem?_cons_zero, List.getElem?_cons_succ]
                repeat (change wpQuiet _ _ _ _ (_ :: _) _; go_big_quiet_step (fail))
                refine wpQuiet_nil ?_
                clear hne2
                refine wpAnyF_one (i := 13) (by kernel_rfl) rfl (fun K hK => ?_)
                have q1 := box_cells hG
                have q2 := box_frozen hG
                go_simp
                have hBs := ((((Ac8.out.setCell (p := ⟨G, 0, none⟩) hGl (.int .i64 (driveP (tabT tt) (tabT tt) ps))).setCell (p := ⟨G, 1, none⟩) hGl (.int .i64 (spreadP d (tabT tt) (tabT tt) ps))).setCell (p := ⟨G, 2, none⟩) hGl (.slice bA (ps.length - 1) bc)).setCell (p := ⟨G, 3, none⟩) hGl (.bool ob))
                have hG2 := blk_set (blk_set (blk_set (blk_set hG (o := 0) (.int .i64 (driveP (tabT tt) (tabT tt) ps))) (o := 1) (.int .i64 (spreadP d (tabT tt) (tabT tt) ps))) (o := 2) (.slice bA (ps.length - 1) bc)) (o := 3) (.bool ob)
                refine hK.out _ _ (fun _ => hBs) ?_
                clear hK K q1 q2
                simp only [List.setIfInBounds_toArray, List.set_cons_succ, List.set_cons_zero] at hG2
                refine wpAnyF_one (i := 14) (by kernel_rfl) rfl (fun K hK => ?_)
                go_simp
                refine hK.out _ _ (fun _ => hBs) ?_
                clear hK K
                refine wpAnyF_done (by kernel_rfl) ?_ _
                refine NoPanic.normal ?_
                go_wp2_with fail
                go_meet
                case rel => exact ⟨G, _, _, _, rfl, rfl, hBs, hG2⟩
            · skip
              go_simp
              have Ac9 := Lib.hid (Acw.out.alloc Acw.out.size (.cells #[.int .i64 0, .int .i64 0, .slice none 0 0, .bool false] 63))
              have hal9 := (Below.refl (v0).heap.size (v0)).alloc (Nat.le_refl _) (.cells #[.int .i64 0, .int .i64 0, .slice none 0 0, .bool false] 63)
              replace hruV := hruV.below hal9
              have hG : ((v0).alloc (.cells #[.int .i64 0, .int .i64 0, .slice none 0 0, .bool false] 63)).heap[(v0).heap.size]? = some (.cells #[.int .i64 0, .int .i64 0, .slice none 0 0, .bool false] 63 (0, 0)) := heap_alloc_new _ _
              have hGl : wr.heap.size ≤ (v0).heap.size := Acw.out.size
              refine hK.out _ _ (fun _ => Ac9.out) ?_
              clear hK K hal9
              obtain ⟨v9, hv9⟩ : ∃ V, V = (v0).alloc (.cells #[.int .i64 0, .int .i64 0, .slice none 0 0, .bool false] 63) := ⟨_, rfl⟩
              obtain ⟨G, hGe⟩ : ∃ G, G = (v0).heap.size := ⟨_, rfl⟩
              rw [← hv9] at Ac9 hG hruV ⊢
              rw [← hGe] at hG hGl ⊢
              clear hv9 hGe
              refine wpAnyF_one (i := 1) (by kernel_rfl) rfl (fun K hK => ?_)
              go_simp
              refine (DayC_any d _ _ _ (Hda.out.below (HbK.out.trans (Ac9.out.mono HbK.out.size))) Hm.out).mono ?_
              rintro e v10 ⟨dA, dB, dc, de, rfl, hdC, hb10⟩
              replace hruV := hruV.below hb10
              replace hG := (hb10.block _ (Array.getElem?_eq_some_iff.1 hG).1).trans hG
              have Ac10 := Lib.hid (Ac9.out.trans (hb10.mono Ac9.out.size))
              refine hK.out _ _ (fun _ => Ac10.out) ?_
              clear hK K hb10
              refine wpAnyF_one (i := 3) (by kernel_rfl) rfl (fun K hK => ?_)
              go_simp
              refine (copy_any _ (natsI l) _ (Hv.out.below (HbK.out.trans (Ac10.out.mono HbK.out.size))) (by rw [HP.out]; omega)).mono ?_
              rintro e v11 ⟨lA, lc, rfl, hlo, hb11⟩
              have hlN := nums_of_own (K := .i64) hlo
              rw [HP.out] at hlN ⊢
              clear hlo
              replace hruV := hruV.below hb11
              replace hdC := hdC.below hb11
              replace hG := (hb11.block _ (Array.getElem?_eq_some_iff.1 hG).1).trans hG
              have Ac11 := Lib.hid (Ac10.out.trans (hb11.mono Ac10.out.size))
              refine hK.out _ _ (fun _ => Ac11.out) ?_
              clear hK K hb11
              refine wpAnyF_one (i := 8) (by kernel_rfl) rfl (fun K hK => ?_)
              go_simp
              refine (HDo.out _ _ _ _ tt _ hdC hlN hruV Httr.out).mono ?_
              rintro e v12 ⟨bA, bc, rfl, _, hb12⟩
              rw [Hob2.out]
              replace hruV := hruV.below hb12
              replace hdC := hdC.below hb12
              replace hlN := hlN.below hb12
              replace hG := (hb12.block _ (Array.getElem?_eq_some_iff.1 hG).1).trans hG
              have Ac12 := Lib.hid (Ac11.out.trans (hb12.mono Ac11.out.size))
              refine hK.out _ _ (fun _ => Ac12.out) ?_
              clear hK K hb12
              refine wpAnyF_pick (by kernel_rfl) (fun _ _ _ _ _ h => h) 2 [9, 10, 11] _ _ _ (by kernel_rfl) Ac12.out ?_
              have hne2 : Nonempty (Meets (fun w' => Below wr.heap.size wr w')) := ⟨⟨_, Ac12.out⟩⟩
              simp only [pick, List.filterMap_cons, List.filterMap_nil, List.getElem?_cons_zero, List.getElem?_cons_succ]
              repeat (change wpQuiet _ _ _ _ (_ :: _) _; go_big_quiet_step (fail))
              refine wpQuiet_nil ?_
              clear hne2
              refine wpAnyF_one (i := 13) (by kernel_rfl) rfl (fun K hK => ?_)
              have q1 := box_cells hG
              have q2 := box_frozen hG
              go_simp
              have hBs := ((((Ac12.out.setCell (p := ⟨G, 0, none⟩) hGl (.int .i64 (driveP (tabT tt) (tabT tt) ps))).setCell (p := ⟨G, 1, none⟩) hGl (.int .i64 (spreadP d (tabT tt) (tabT tt) ps))).setCell (p := ⟨G, 2, none⟩) hGl (.slice bA (ps.length - 1) bc)).setCell (p := ⟨G, 3, none⟩) hGl (.bool ob))
              have hG2 := blk_set (blk_set (blk_set (blk_set hG (o := 0) (.int .i64 (driveP (tabT tt) (tabT tt) ps))) (o := 1) (.int .i64 (spreadP d (tabT tt) (tabT tt) ps))) (o := 2) (.slice bA (ps.length - 1) bc)) (o := 3) (.bool ob)
              refine hK.out _ _ (fun _ => hBs) ?_
              clear hK K q1 q2
              simp only [List.setIfInBounds_toArray, List.set_cons_succ, List.set_cons_zero] at hG2
              refine wpAnyF_one (i := 14) (by kernel_rfl) rfl (fun K hK => ?_)
              go_simp
              refine hK.out _ _ (fun _ => hBs) ?_
              clear hK K
              refine wpAnyF_done (by kernel_rfl) ?_ _
              refine NoPanic.normal ?_
              go_wp2_with fail
              go_meet
              case rel => exact ⟨G, _, _, _, rfl, rfl, hBs, hG2⟩
          case rest =>
            obtain ⟨G, dr, sp, bv, rfl, rfl, hbx, hG⟩ := hcut
            rename World => wx
            have q3 := box_cells hG 3
            simp only [List.getElem?_toArray, List.getElem?_cons_zero, List.getElem?_cons_succ] at q3
            have Hbx := Lib.hid (Hbk.out.trans (hbx.mono Hbk.out.size))
            clear gx hcu hG hbx
            cases ob with
            | false =>
              go_wp2
              go_ret
              exact ⟨rfl, HB0.out.trans ((Hbr.out.trans (Hbx.out.mono Hbr.out.size)).mono HB0.out.size)⟩
            | true =>
              go_wp2
              go_roundw
              case rel =>
                refine ⟨k + 1, by omega, by go_num, Hbx.out, fun j hj t2 h2 => ?_⟩
                by_cases hjk : j = k
                · subst hjk
                  rw [Htt.out] at h2
                  cases h2
                  exact Hob2.out
                · exact Hall.out j (by omega) t2 h2
              case measure => simp [intOf]; omega
        · exfalso
          have hke : k = n := by omega
          have h1 := Hall.out kb (by omega) tb Hkb.out
          rw [Hob.out] at h1
          cases h1
end Go.Proofs.YtllobkhdeahgpaaGreat
