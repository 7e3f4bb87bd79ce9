import Derived.Laws.EntriesVeiled
import Derived.Test.YtckgapeednokjaaGreatTm
set_option linter.unusedVariables false
set_option linter.unusedSimpArgs false
namespace Go.Proofs.YtckgapeednokjaaGreat
open Go Go.Proofs Go.RowKit

/-! ### run: every, match -/
theorem wpAnyF_three {P : Program} {ops : Array Oper} {Q : Exit → Act → World → Prop} {md : Region.Mode} {S : World → Prop} {kp : Nat → Bool} {i j k : Nat} {oi oj ok : Oper} {fuel : Nat} {listed : Array Bool} {a : Act} {w : World} (hr : Region.ready md ops listed = [i, j, k]) (hi : ops[i]? = some oi) (hj : ops[j]? = some oj) (hk : ops[k]? = some ok)
    (h1 : ∀ K' : Act → World → Prop, Hid (∀ a w, (kp i = true → S w) → wpAnyF P md ops Q S kp fuel (listed.setIfInBounds i true) a w → K' a w) → if Region.wanted oi (yielded ops a.tmps) = true then Oper.wp P oi a w K' Q else K' (a.put oi.dst undef) w)
    (h2 : ∀ K' : Act → World → Prop, Hid (∀ a w, (kp j = true → S w) → wpAnyF P md ops Q S kp fuel (listed.setIfInBounds j true) a w → K' a w) → if Region.wanted oj (yielded ops a.tmps) = true then Oper.wp P oj a w K' Q else K' (a.put oj.dst undef) w)
    (h3 : ∀ K' : Act → World → Prop, Hid (∀ a w, (kp k = true → S w) → wpAnyF P md ops Q S kp fuel (listed.setIfInBounds k true) a w → K' a w) → if Region.wanted ok (yielded ops a.tmps) = true then Oper.wp P ok a w K' Q else K' (a.put ok.dst undef) w) :
    wpAnyF P md ops Q S kp (fuel + 1) listed a w := by
  refine ⟨fun h0 => (by rw [hr] at h0; cases h0), fun m hm => ?_⟩
  rw [hr] at hm
  rcases (by simpa using hm : m = i ∨ m = j ∨ m = k) with rfl | rfl | rfl
  · exact wpOp_step hi fun K' hK => h1 K' fun a w hS hW => hK a w ⟨hS, hW⟩
  · exact wpOp_step hj fun K' hK => h2 K' fun a w hS hW => hK a w ⟨hS, hW⟩
  · exact wpOp_step hk fun K' hK => h3 K' fun a w hS hW => hK a w ⟨hS, hW⟩
theorem wpAnyF_four {P : Program} {ops : Array Oper} {Q : Exit → Act → World → Prop} {md : Region.Mode} {S : World → Prop} {kp : Nat → Bool} {i j k l : Nat} {oi oj ok ol : Oper} {fuel : Nat} {listed : Array Bool} {a : Act} {w : World} (hr : Region.ready md ops listed = [i, j, k, l]) (hi : ops[i]? = some oi) (hj : ops[j]? = some oj) (hk : ops[k]? = some ok) (hl : ops[l]? = some ol)
    (h1 : ∀ K' : Act → World → Prop, Hid (∀ a w, (kp i = true → S w) → wpAnyF P md ops Q S kp fuel (listed.setIfInBounds i true) a w → K' a w) → if Region.wanted oi (yielded ops a.tmps) = true then Oper.wp P oi a w K' Q else K' (a.put oi.dst undef) w)
    (h2 : ∀ K' : Act → World → Prop, Hid (∀ a w, (kp j = true → S w) → wpAnyF P md ops Q S kp fuel (listed.setIfInBounds j true) a w → K' a w) → if Region.wanted oj (yielded ops a.tmps) = true then Oper.wp P oj a w K' Q else K' (a.put oj.dst undef) w)
    (h3 : ∀ K' : Act → World → Prop, Hid (∀ a w, (kp k = true → S w) → wpAnyF P md ops Q S kp fuel (listed.setIfInBounds k true) a w → K' a w) → if Region.wanted ok (yielded ops a.tmps) = true then Oper.wp P ok a w K' Q else K' (a.put ok.dst undef) w)
    (h4 : ∀ K' : Act → World → Prop, Hid (∀ a w, (kp l = true → S w) → wpAnyF P md ops Q S kp fuel (listed.setIfInBounds l true) a w → K' a w) → if Region.wanted ol (yielded ops a.tmps) = true then Oper.wp P ol a w K' Q else K' (a.put ol.dst undef) w) :
    wpAnyF P md ops Q S kp (fuel + 1) listed a w := by
  refine ⟨fun h0 => (by rw [hr] at h0; cases h0), fun m hm => ?_⟩
  rw [hr] at hm
  rcases (by simpa using hm : m = i ∨ m = j ∨ m = k ∨ m = l) with rfl | rfl | rfl | rfl
  · exact wpOp_step hi fun K' hK => h1 K' fun a w hS hW => hK a w ⟨hS, hW⟩
  · exact wpOp_step hj fun K' hK => h2 K' fun a w hS hW => hK a w ⟨hS, hW⟩
  · exact wpOp_step hk fun K' hK => h3 K' fun a w hS hW => hK a w ⟨hS, hW⟩
  · exact wpOp_step hl fun K' hK => h4 K' fun a w hS hW => hK a w ⟨hS, hW⟩
def evC (k : Nat) : List Bool := List.replicate k true ++ List.replicate (12 - k) false
theorem evC_set {k : Nat} (h : k < 12) : (evC k).set k true = evC (k + 1) := by
  obtain ⟨d, hd⟩ : ∃ d, 12 - k = d + 1 := ⟨12 - k - 1, by omega⟩
  have e : 12 - (k + 1) = d := by omega
  unfold evC
  rw [hd, e, List.set_append_right _ _ (by simp), List.length_replicate, Nat.sub_self, List.replicate_succ, List.set_cons_zero, List.replicate_succ', List.append_assoc]
  rfl
theorem evC_get {k : Nat} (h : k < 12) : (evC k)[k]? = some false := by
  unfold evC
  rw [List.getElem?_append_right (by simp), List.length_replicate, Nat.sub_self, List.getElem?_replicate, if_pos (by omega)]
set_option maxRecDepth 100000 in
theorem every_any (w : World) : Calls Tryz.prog 48 #[] w (Gives w (.agg #[.bool true, .bool true, .bool true, .bool true, .bool true, .bool true, .bool true, .bool true, .bool true, .bool true, .bool true, .bool true])) := by
  have hb0 : Below w.heap.size w (w.alloc (.cells #[.bool false, .bool false, .bool false, .bool false, .bool false, .bool false, .bool false, .bool false, .bool false, .bool false, .bool false, .bool false] 124)) := (Below.refl _ _).alloc (Nat.le_refl _) _
  have G0 := Lib.hid (heap_alloc_new w (.cells #[.bool false, .bool false, .bool false, .bool false, .bool false, .bool false, .bool false, .bool false, .bool false, .bool false, .bool false, .bool false] 124))
  go_enter Tryz.func48, Tryz.ntmps48
  go_wp2
  go_loopw [2] (fun s wr => ∃ k : Nat, k ≤ 12 ∧ s = .int .i64 (k : Int) ∧ Below w.heap.size w wr ∧ wr.heap[w.heap.size]? = some (.cells ((evC k).map Value.bool).toArray 124 (0, 0))) (fun s _ => 12 - (intOf s).toNat)
  case atStart => exact ⟨0, by omega, rfl, hb0, G0.out⟩
  case round =>
    obtain ⟨k, hk, rfl, hbr, hg⟩ := hrel
    by_cases hlt : k < 12
    · have c0 := box_cells hg k
      rw [List.getElem?_toArray, List.getElem?_map, evC_get hlt, Option.map_some] at c0
      have f0 := box_frozen hg k
      have Hg := Lib.hid hg
      have Hbr := Lib.hid hbr
      have hkI : (k : Int) < 12 := by omega
      clear hg hbr
      go_wp2
      go_roundw
      case rel =>
        refine ⟨k + 1, by omega, by go_num, Hbr.out.setCell (p := ⟨w.heap.size, k, none⟩) (Nat.le_refl _) _, ?_⟩
        have := blk_set (o := k) Hg.out (.bool true)
        rw [List.setIfInBounds_toArray, map_setV, evC_set hlt] at this
        exact this
      case measure => simp [intOf]; omega
    · obtain rfl : k = 12 := by omega
      have hg2 : wr.heap[w.heap.size]? = some (.cells #[.bool true, .bool true, .bool true, .bool true, .bool true, .bool true, .bool true, .bool true, .bool true, .bool true, .bool true, .bool true] 124 (0, 0)) := hg
      have gc := box_cells hg2
      have gf := box_frozen hg2
      have Hg := Lib.hid hg2
      clear hg hg2
      go_wp2
      have bx3 := (blk_set (blk_set (blk_set (blk_set (blk_set (blk_set (blk_set (blk_set (blk_set (blk_set (blk_set (blk_set Hg.out (o := 0) (.bool true)) (o := 1) (.bool true)) (o := 2) (.bool true)) (o := 3) (.bool true)) (o := 4) (.bool true)) (o := 5) (.bool true)) (o := 6) (.bool true)) (o := 7) (.bool true)) (o := 8) (.bool true)) (o := 9) (.bool true)) (o := 10) (.bool true)) (o := 11) (.bool true))
      have hB3 := ((((((((((((((((((((((((hbr).setCell (p := ⟨w.heap.size, 0, none⟩) (Nat.le_refl _) (.bool true))).setCell (p := ⟨w.heap.size, 1, none⟩) (Nat.le_refl _) (.bool true))).setCell (p := ⟨w.heap.size, 2, none⟩) (Nat.le_refl _) (.bool true))).setCell (p := ⟨w.heap.size, 3, none⟩) (Nat.le_refl _) (.bool true))).setCell (p := ⟨w.heap.size, 4, none⟩) (Nat.le_refl _) (.bool true))).setCell (p := ⟨w.heap.size, 5, none⟩) (Nat.le_refl _) (.bool true))).setCell (p := ⟨w.heap.size, 6, none⟩) (Nat.le_refl _) (.bool true))).setCell (p := ⟨w.heap.size, 7, none⟩) (Nat.le_refl _) (.bool true))).setCell (p := ⟨w.heap.size, 8, none⟩) (Nat.le_refl _) (.bool true))).setCell (p := ⟨w.heap.size, 9, none⟩) (Nat.le_refl _) (.bool true))).setCell (p := ⟨w.heap.size, 10, none⟩) (Nat.le_refl _) (.bool true))).setCell (p := ⟨w.heap.size, 11, none⟩) (Nat.le_refl _) (.bool true))
      simp only [List.setIfInBounds_toArray, List.set_cons_succ, List.set_cons_zero] at bx3
      refine bodyPost_ret (results_cell_row rfl _ _ w.heap.size 124 #[.bool true, .bool true, .bool true, .bool true, .bool true, .bool true, .bool true, .bool true, .bool true, .bool true, .bool true, .bool true] (0, 0) _ rfl bx3 rfl rfl (by kernel_rfl)) rfl ⟨rfl, hB3⟩
/-- The rows of follows, wherever they lie. -/
structure FolAt (V : World) (t : Tab) (N O S0 S1 : Nat) (us : List Value) : Prop where
  ob : V.heap[O]? = some (.cells us.toArray 29 (0, 0))
  len : us.length = N
  row : ∀ i, i < N → ∃ A c, us[i]? = some (.slice A (rowOf (pairsL t N) i).length c) ∧ NumsAt .i64 V (.slice A (rowOf (pairsL t N) i).length c) (rowOf (pairsL t N) i) ∧ ∀ b o, A = some ⟨b, o, none⟩ → S0 ≤ b ∧ b < S1
  o0 : S0 ≤ O ∧ O < S1
  s1 : S1 ≤ V.heap.size
theorem FolAt.below {V V' : World} {t : Tab} {N O S0 S1 : Nat} {us : List Value} (h : FolAt V t N O S0 S1 us) (hb : Below V.heap.size V V') : FolAt V' t N O S0 S1 us :=
  ⟨(hb.block _ (Array.getElem?_eq_some_iff.1 h.ob).1).trans h.ob, h.len, fun i hi => by
    obtain ⟨A, c, h1, h2, h3⟩ := h.row i hi
    exact ⟨A, c, h1, h2.below hb, h3⟩, h.o0, Nat.le_trans h.s1 hb.size⟩
theorem fol_of {t : Tab} {N : Nat} {V V' : World} {O : Nat} {us : List Value} (hN : t.trips.length = N) (h1 : V.heap.size ≤ O) (h2 : V'.heap[O]? = some (.cells us.toArray 29 (0, 0))) (h3 : us.length = t.trips.length)
    (h4 : ∀ i, i < t.trips.length → ∃ A c, us[i]? = some (.slice A (rowOf (pairsL t t.trips.length) i).length c) ∧ NumsAt .i64 V' (.slice A (rowOf (pairsL t t.trips.length) i).length c) (rowOf (pairsL t t.trips.length) i) ∧ ∀ b o, A = some ⟨b, o, none⟩ → V.heap.size ≤ b ∧ b < V'.heap.size) :
    FolAt V' t N O V.heap.size V'.heap.size us := by
  subst hN
  exact ⟨h2, h3, h4, ⟨h1, (Array.getElem?_eq_some_iff.1 h2).1⟩, Nat.le_refl _⟩
/-- What match has laid before it gives. -/
structure Laid0 (w1 wx : World) (t : Tab) (u z : Value) (N Mv MB O nb bb : Nat) (us : List Value) : Prop where
  bel : Below w1.heap.size w1 wx
  mv : wx.heap[Mv]? = some (.cells #[.pointer (some ⟨MB, 0, none⟩)] 121 (0, 0))
  mb : wx.heap[MB]? = some (.cells #[.int .i64 t.places, .int .i64 t.lay, u, z, .slice (some ⟨O, 0, none⟩) N N, .slice (some ⟨nb, 0, none⟩) N N, .slice (some ⟨bb, 0, none⟩) N N] 127 (0, 0))
  nbk : wx.heap[nb]? = some (.cells ((List.replicate N (-1 : Int)).map (Value.int .i64)).toArray 3 (0, 0))
  bbk : wx.heap[bb]? = some (.cells ((List.replicate N (-1 : Int)).map (Value.int .i64)).toArray 3 (0, 0))
  ob : wx.heap[O]? = some (.cells us.toArray 29 (0, 0))
  len : us.length = N
  row : ∀ i, i < N → ∃ A c, us[i]? = some (.slice A (rowOf (pairsL t N) i).length c) ∧ NumsAt .i64 wx (.slice A (rowOf (pairsL t N) i).length c) (rowOf (pairsL t N) i) ∧ ∀ b o, A = some ⟨b, o, none⟩ → b ≠ nb ∧ b ≠ bb ∧ b < wx.heap.size
  d1 : nb ≠ bb
  dM : Mv ≠ nb ∧ Mv ≠ bb
  dB : MB ≠ nb ∧ MB ≠ bb
  dO : O ≠ nb ∧ O ≠ bb
  low : w1.heap.size ≤ nb ∧ w1.heap.size ≤ bb
theorem NumsAt.setO {K : IntKind} {w : World} {A : Option Addr} {n c Q o : Nat} {l : List Int} {x : Value} (h : NumsAt K w (.slice A n c) l) (hne : ∀ b o, A = some ⟨b, o, none⟩ → b ≠ Q) : NumsAt K (w.setCell ⟨Q, o, none⟩ x) (.slice A n c) l := by
  obtain ⟨A', c', e, h1, h2, h3⟩ := h
  cases e
  refine ⟨A, c, rfl, h1, h2, fun hp => ?_⟩
  obtain ⟨b, o', e, hc⟩ := h3 hp
  refine ⟨b, o', e, fun k hk => ?_⟩
  rw [← hc k hk]
  exact World.cell?_of_block (Below.heap_setCell w ⟨Q, o, none⟩ x b (hne b o' e))
theorem laid_of {w1 V : World} {t : Tab} {u z : Value} {N Mv MB O nb bb S0 S1 : Nat} {us : List Value} (hb : Below w1.heap.size w1 V) (hv : V.heap[Mv]? = some (.cells #[.pointer none] 121 (0, 0))) (hm : V.heap[MB]? = some (.cells #[.int .i64 t.places, .int .i64 t.lay, u, z, .slice (some ⟨O, 0, none⟩) N N, .slice (some ⟨nb, 0, none⟩) N N, .slice (some ⟨bb, 0, none⟩) N N] 127 (0, 0)))
    (hn : V.heap[nb]? = some (.cells ((List.replicate N (-1 : Int)).map (Value.int .i64)).toArray 3 (0, 0))) (hbb : V.heap[bb]? = some (.cells ((List.replicate N (-1 : Int)).map (Value.int .i64)).toArray 3 (0, 0))) (hf : FolAt V t N O S0 S1 us) (a1 : w1.heap.size ≤ Mv) (a2 : S1 ≤ nb) (a3 : nb < bb) (a4 : bb < MB) (a5 : Mv < S0 ∨ S1 ≤ Mv) (a6 : Mv ≠ nb) (a7 : Mv ≠ bb) (a8 : Mv ≠ MB) (a9 : w1.heap.size ≤ S0) :
    Laid0 w1 (V.setCell ⟨Mv, 0, none⟩ (.pointer (some ⟨MB, 0, none⟩))) t u z N Mv MB O nb bb us := by
  have h0 := hf.o0
  have hs := hf.s1
  refine ⟨hb.setCell (p := ⟨Mv, 0, none⟩) a1 _, ?_, blk_other hm (fun e => a8 e.symm) _, blk_other hn (fun e => a6 e.symm) _, blk_other hbb (fun e => a7 e.symm) _, blk_other hf.ob (by omega) _, hf.len, fun i hi => ?_, by omega, ⟨a6, a7⟩, ⟨by omega, by omega⟩, ⟨by omega, by omega⟩, ⟨by omega, by omega⟩⟩
  · have := blk_set hv (o := 0) (.pointer (some ⟨MB, 0, none⟩))
    simpa only [List.setIfInBounds_toArray, List.set_cons_zero] using this
  · obtain ⟨A, c, h1, h2, h3⟩ := hf.row i hi
    refine ⟨A, c, h1, h2.setO fun b o e => ?_, fun b o e => ?_⟩
    · have := h3 b o e; omega
    · have := h3 b o e
      refine ⟨by omega, by omega, ?_⟩
      simp [World.setCell]
      omega
theorem wpAnyF_alloc {P : Program} {ops : Array Oper} {Q : Exit → Act → World → Prop} {md : Region.Mode} {S : World → Prop} {kp : Nat → Bool} {fuel : Nat} {listed : Array Bool} {a : Act} {V : World} {xs : Array Value} {t : TypeId}
    (h : ∀ V', V.heap.size < V'.heap.size → Below V.heap.size V V' → V'.heap[V.heap.size]? = some (.cells xs t (0, 0)) → wpAnyF P md ops Q S kp fuel listed a V') : wpAnyF P md ops Q S kp fuel listed a (V.alloc (.cells xs t)) :=
  h _ (by simp) ((Below.refl _ _).alloc (Nat.le_refl _) _) (heap_alloc_new V _)
theorem name_it (V : World) : ∃ g, V.heap.size ≤ g ∧ g ≤ V.heap.size ∧ V.heap.size = g := ⟨_, Nat.le_refl _, Nat.le_refl _, rfl⟩
end Go.Proofs.YtckgapeednokjaaGreat
