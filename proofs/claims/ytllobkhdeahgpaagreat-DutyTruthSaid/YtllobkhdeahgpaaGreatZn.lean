import Derived.Test.YtllobkhdeahgpaaGreatZm
set_option linter.unusedVariables false
set_option linter.unusedSimpArgs false
namespace Go.Proofs.YtllobkhdeahgpaaGreat
open Go Go.Proofs Go.RowKit

/-! ### The truths in which one block is late behind a relief, or up to one -/
def strK (bl : List (List Rel)) (b e k : Nat) : Nat → Nat → Int := fun c i => if c = b ∧ e < i ∧ i < k then hiT bl c i else loT bl c i
def strT (bl : List (List Rel)) (b e : Nat) : Nat → Nat → Int := fun c i => if c = b ∧ e < i then hiT bl c i else loT bl c i
def preA (bl : List (List Rel)) (b k : Nat) : Nat → Nat → Int := fun c i => if c = b ∧ i < k then hiT bl c i else loT bl c i
def preK (bl : List (List Rel)) (b a k : Nat) : Nat → Nat → Int := fun c i => if c = b then (if i ≤ a then hiT bl c i else if i < k then max (loT bl c i) (hiT bl c a) else loT bl c i) else loT bl c i
theorem str_step {bl : List (List Rel)} {b e k : Nat} (h : e < k) : tabL bl (updT (strK bl b e k) b k (hiT bl b k)) = tabL bl (strK bl b e (k + 1)) := by
  refine tabL_congr fun c i _ _ => ?_
  unfold updT strK
  by_cases h1 : c = b ∧ i = k
  · obtain ⟨rfl, rfl⟩ := h1
    rw [if_pos ⟨rfl, rfl⟩, if_pos ⟨rfl, h, by omega⟩]
  · rw [if_neg h1]
    by_cases h2 : c = b ∧ e < i ∧ i < k
    · rw [if_pos h2, if_pos ⟨h2.1, h2.2.1, by omega⟩]
    · rw [if_neg h2, if_neg (fun h3 => ?_)]
      obtain ⟨h4, h5, h6⟩ := h3
      by_cases h7 : i = k
      · exact h1 ⟨h4, h7⟩
      · exact h2 ⟨h4, h5, by omega⟩
theorem str_zero (bl : List (List Rel)) (b e : Nat) : tabL bl (strK bl b e (e + 1)) = tabL bl (loT bl) := tabL_congr fun c i _ _ => by
  unfold strK
  rw [if_neg (by omega)]
theorem str_all {bl : List (List Rel)} {b e k : Nat} (h : k = (bl[b]?.getD []).length) : tabL bl (strK bl b e k) = tabL bl (strT bl b e) := tabL_congr fun c i hc hi => by
  unfold strK strT
  by_cases h1 : c = b ∧ e < i
  · rw [if_pos h1, if_pos ⟨h1.1, h1.2, by rw [h, ← h1.1]; exact hi⟩]
  · rw [if_neg h1, if_neg (fun h2 => h1 ⟨h2.1, h2.2.1⟩)]
theorem preA_step (bl : List (List Rel)) (b k : Nat) : tabL bl (updT (preA bl b k) b k (hiT bl b k)) = tabL bl (preA bl b (k + 1)) := by
  refine tabL_congr fun c i _ _ => ?_
  unfold updT preA
  by_cases h1 : c = b ∧ i = k
  · obtain ⟨rfl, rfl⟩ := h1
    rw [if_pos ⟨rfl, rfl⟩, if_pos ⟨rfl, by omega⟩]
  · rw [if_neg h1]
    by_cases h2 : c = b ∧ i < k
    · rw [if_pos h2, if_pos ⟨h2.1, by omega⟩]
    · rw [if_neg h2, if_neg (fun h3 => ?_)]
      by_cases h7 : i = k
      · exact h1 ⟨h3.1, h7⟩
      · exact h2 ⟨h3.1, by omega⟩
theorem preA_zero (bl : List (List Rel)) (b : Nat) : tabL bl (preA bl b 0) = tabL bl (loT bl) := tabL_congr fun c i _ _ => by
  unfold preA
  rw [if_neg (by omega)]
theorem preA_K (bl : List (List Rel)) (b a : Nat) : tabL bl (preA bl b (a + 1)) = tabL bl (preK bl b a (a + 1)) := tabL_congr fun c i _ _ => by
  unfold preA preK
  by_cases h1 : c = b
  · rw [if_pos h1]
    by_cases h2 : i ≤ a
    · rw [if_pos h2, if_pos ⟨h1, by omega⟩]
    · rw [if_neg h2, if_neg (by omega), if_neg (by omega)]
  · rw [if_neg h1, if_neg (fun h => h1 h.1)]
theorem preK_step {bl : List (List Rel)} {b a k : Nat} (h : a < k) : tabL bl (updT (preK bl b a k) b k (max (loT bl b k) (hiT bl b a))) = tabL bl (preK bl b a (k + 1)) := by
  refine tabL_congr fun c i _ _ => ?_
  unfold updT preK
  by_cases h1 : c = b ∧ i = k
  · obtain ⟨rfl, rfl⟩ := h1
    rw [if_pos ⟨rfl, rfl⟩, if_pos rfl, if_neg (by omega), if_pos (by omega)]
  · rw [if_neg h1]
    by_cases h2 : c = b
    · rw [if_pos h2, if_pos h2]
      by_cases h3 : i ≤ a
      · rw [if_pos h3, if_pos h3]
      · rw [if_neg h3, if_neg h3]
        by_cases h4 : i < k
        · rw [if_pos h4, if_pos (by omega)]
        · rw [if_neg h4, if_neg (fun h5 => h1 ⟨h2, by omega⟩)]
    · rw [if_neg h2, if_neg h2]
theorem preK_all {bl : List (List Rel)} {b a k : Nat} (h : k = (bl[b]?.getD []).length) : tabL bl (preK bl b a k) = tabL bl (preT bl b a) := tabL_congr fun c i hc hi => by
  unfold preK preT
  by_cases h1 : c = b
  · rw [if_pos h1, if_pos h1]
    by_cases h2 : i ≤ a
    · rw [if_pos h2, if_pos h2]
    · rw [if_neg h2, if_neg h2, if_pos (by rw [h, ← h1]; exact hi)]
  · rw [if_neg h1, if_neg h1]
theorem tab_drew {w : World} {p : Addr} {x : Value} {base : Nat} {v : Value} {tt : List (List Int)} (h : TabOwn (w.setCell p x) base v tt) : TabOwn (w.drew.setCell p x) base v tt :=
  TabOwn.below (W' := (w.setCell p x).drew) h (Below.refl _ _).drew
theorem wp_region_pickX {P : Program} {Q : Exit → Act → World → Prop} {id : Nat} {a : Act} {w : World} {l : List Oper} (fs rs : List Nat) (kp : Nat → Bool) (S : World → Prop) (hm : P.follows .mixedOrders = true)
    (hB : (Region.noSelect l.toArray && (frontPickB .any l.toArray kp fs (Array.replicate l.toArray.size false) && (seqPickB .any l.toArray rs (listAll fs (Array.replicate l.toArray.size false)) && (decide (fs.length + rs.length = l.length) && rs.all fun i => decide (i < l.length))))) = true)
    (hQ : ∀ c a d v w, Q (.panic c) (a.put d v) w → Q (.panic c) a w) (hS : S w.drew)
    (h : Nonempty (Meets S) → wpQuiet P l.toArray (fun w' => ∃ x : Meets S, w' = x.val) (fun a' => wpSeqP P l.toArray Q S kp (pickN l rs) a' w.drew) (pick l fs) a) : (Code.region id l.toArray true).wp P Q a w :=
  wp_region_pick fs rs kp S hm hB hQ hS h
set_option maxRecDepth 100000 in
set_option maxHeartbeats 4000000 in
theorem stretched_any (d : DDay) (u z : Value) (b a : Nat) (w : World) (hda : DayAt w u z d) (hd : DayOk d) (hi : InDay d b a) :
    Calls Tryz.prog 79 #[.agg #[.int .i64 d.law.piece, .int .i64 d.law.drive, .int .i64 d.law.spread, .int .i64 d.law.brk, .int .i64 d.law.on, .int .i64 d.law.off, .int .i64 d.law.least, .int .i64 d.law.pieces, u, z], .int .i64 (b : Int), .int .i64 (a : Int)] w (GivesTab w (tabL d.blocks (strT d.blocks b a))) := by
  obtain ⟨A1, c1, rfl, _, _⟩ := hda.blocks.form
  obtain ⟨A2, c2, rfl, _, _⟩ := hda.walk.form
  have hm := day_mild hd
  have hib := hi.1
  obtain ⟨l, hl⟩ : ∃ l, d.blocks[b]? = some l := ⟨_, List.getElem?_eq_getElem hib⟩
  have hgl : d.blocks[b]?.getD [] = l := by rw [hl]; rfl
  have hal : a < l.length := by have := hi.2; rw [hgl] at this; exact this
  have hll := hm.block b l hl
  obtain ⟨N, hN⟩ : ∃ N, l.length = N := ⟨_, rfl⟩
  rw [hN] at hal hll
  have hbI : (b : Int) < (d.blocks.length : Int) := by omega
  have HN := Lib.hid hN
  have Hl := Lib.hid hl
  have Hgl := Lib.hid hgl
  have Hda := Lib.hid hda
  have Hd := Lib.hid hd
  have Hm := Lib.hid hm
  clear hda hd hm hi hN hl hgl
  go_enter Tryz.func79, Tryz.ntmps79
  go_upto_region 1 with (fail)
  refine wp_name (fun W => Below w.heap.size w W ∧ W.heap[w.heap.size]? = some (.cells #[.int .i64 d.law.piece, .int .i64 d.law.drive, .int .i64 d.law.spread, .int .i64 d.law.brk, .int .i64 d.law.on, .int .i64 d.law.off, .int .i64 d.law.least, .int .i64 d.law.pieces, .slice A1 d.blocks.length c1, .slice A2 d.walk.length c2] 27 (0, 0))) ⟨(Below.refl _ _).alloc (Nat.le_refl _) _, heap_alloc_new w _⟩ (fun W0 hW => ?_)
  obtain ⟨hb0, hx0⟩ := hW
  have HB0 := Lib.hid hb0
  have HX0 := Lib.hid hx0
  clear hb0 hx0
  have gc := box_cells HX0.out
  go_wp2_with fail
  refine (Lows_apart d _ _ _ (Hda.out.below HB0.out) Hm.out).mono ?_
  rintro e1 w1 ⟨A, c, us, rfl, ho, hr, ha, hb1⟩
  have hle : (lowsL d.blocks).length = d.blocks.length := by simp [lowsL]
  have ht0 : TabOwn w1 W0.heap.size (.slice A d.blocks.length c) (tabL d.blocks (loT d.blocks)) := by
    rw [← lows_tab, ← hle]
    exact ⟨us, ho, hr, ha⟩
  rw [hle]
  obtain ⟨g, rfl⟩ : ∃ g, A = some ⟨g, 0, none⟩ := by
    rcases ho.2 with ⟨_, h0⟩ | ⟨g, cap, cur, e9, _⟩
    · omega
    · cases e9; exact ⟨g, rfl⟩
  have Ht0 := Lib.hid ht0
  have Hb1 := Lib.hid hb1
  clear ho hr ha hb1 hle ht0 gc
  have haI : IntKind.i64.wrap ((a : Int) + 1) = ((a + 1 : Nat) : Int) := by rw [IntWalk.i64_in _ (by omega)]; rfl
  go_wp2
  go_loopw [8] (fun s wr => ∃ k : Nat, a + 1 ≤ k ∧ k ≤ N ∧ s = .int .i64 (k : Int) ∧ Below W0.heap.size W0 wr ∧ TabOwn wr W0.heap.size (.slice (some ⟨g, 0, none⟩) d.blocks.length c) (tabL d.blocks (strK d.blocks b a k))) (fun s wr => N - (intOf s).toNat)
  case atStart => exact ⟨a + 1, by omega, by omega, by simp, Hb1.out, by rw [str_zero]; exact Ht0.out⟩
  case round =>
    obtain ⟨k, hk1, hk, rfl, hbr, htb⟩ := hrel
    have Htb := Lib.hid htb
    obtain ⟨g1, c3, gr, cr, ev, hcell, hrow, hfz, hgr, htyp, hset⟩ := htb.at_ (tabL_get (strK d.blocks b a k) hib) (by simp only [List.length_map, List.length_range]; rw [Hgl.out, HN.out]; omega)
    rw [tabL_len] at ev
    cases ev
    simp only [List.length_map, List.length_range] at hcell
    rw [Hgl.out, HN.out] at hcell
    have hset2 : ∀ j x, TabOwn (wr.setCell ⟨gr, j, none⟩ (.int .i64 x)) W0.heap.size (.slice (some ⟨g, 0, none⟩) d.blocks.length c) (tabL d.blocks (updT (strK d.blocks b a k) b j x)) := fun j x => by
      have h := hset j x
      rw [tabL_set (strK d.blocks b a k) j x hib] at h
      exact h
    have hrow2 : ∀ j, j < N → wr.cell? ⟨gr, j, none⟩ = some (.int .i64 ((strK d.blocks b a k) b j)) := fun j hj => by
      refine hrow j _ ?_
      rw [List.getElem?_map, List.getElem?_range (by rw [Hgl.out, HN.out]; exact hj)]
      rfl
    have Hset := Lib.hid hset2
    have Hrow := Lib.hid hrow2
    have Hfz := Lib.hid hfz
    have Hcell := Lib.hid hcell
    clear hset hset2 hrow hrow2 hfz htb
    by_cases hlt : k < N
    · have kI : (k : Int) < (N : Int) := by omega
      have hbw := HB0.out.trans (hbr.mono HB0.out.size)
      have hxr := (hbr.block _ (Array.getElem?_eq_some_iff.1 HX0.out).1).trans HX0.out
      obtain ⟨b2, o2, l2, u2, ea, hl2, c0, hrl, _⟩ := (Hda.out.blocks.below hbw).at_ (k := b) hib
      cases ea
      rw [Hl.out] at hl2
      cases hl2
      obtain ⟨A3, c4, rfl, _, _⟩ := hrl.form
      obtain ⟨b3, o3, r, ea, hr3, r0, r1, r2, _⟩ := hrl.at_ (k := k) (by rw [HN.out]; omega)
      subst ea
      have hhi : hiT d.blocks b k = r.hi := by unfold hiT relAt; rw [Hgl.out, hr3]; rfl
      rw [HN.out] at c0
      have Hhi := Lib.hid hhi
      have gx := box_cells hxr 8
      clear hr3 hrl hhi hxr hbw
      have Hst := Lib.hid (str_step (bl := d.blocks) (b := b) (e := a) (k := k) (by omega))
      go_upto_region 5 with (fail)
      refine wp_region_noPanic ?_
      refine wp_region_pickX [0, 1, 2, 3, 4, 5, 6, 7, 8, 9, 10, 11, 12, 13, 14] [15, 16] (fun i => !(i == 16)) (fun w' => Below wr.heap.size wr w') (by kernel_rfl) (by kernel_rfl) (fun _ _ _ _ _ h => h) (Below.refl _ _).drew (fun hne => ?_)
      have n0 := fun q : Meets (fun w' => Below wr.heap.size wr w') => cell_below q.property hcell
      have n1 := fun q : Meets (fun w' => Below wr.heap.size wr w') => cell_below q.property gx
      have n2 := fun q : Meets (fun w' => Below wr.heap.size wr w') => cell_below q.property c0
      have n3 := fun q : Meets (fun w' => Below wr.heap.size wr w') => cell_below q.property r0
      have n4 := fun q : Meets (fun w' => Below wr.heap.size wr w') => cell_below q.property r1
      have n5 := fun q : Meets (fun w' => Below wr.heap.size wr w') => cell_below q.property r2
      simp only [pick, pickN, List.filterMap_cons, List.filterMap_nil, List.getElem?_cons_zero, List.getElem?_cons_succ, Option.map_some]
      repeat (change wpQuiet _ _ _ _ (_ :: _) _; go_big_quiet_step (fail))
      refine wpQuiet_nil ?_
      clear n0 n1 n2 n3 n4 n5 hne
      have hB0 : Below wr.heap.size wr wr.drew := (Below.refl _ _).drew
      have d0 := cell_below hB0 (Hrow.out k (by omega))
      have hgrl : gr < wr.heap.size := World.block_lt_of_cell? _ _ (Hrow.out k (by omega))
      have fz : ∀ o, wr.drew.frozen? ⟨gr, o, none⟩ = false := fun o => (hB0.frozen (p := ⟨gr, o, none⟩) hgrl).trans (Hfz.out o)
      refine wpSeqP_step (fun K hK => ?_)
      go_simp
      refine hK.out _ _ (fun _ => hB0) ?_
      clear hK K
      refine wpSeqP_step (fun K hK => ?_)
      go_simp
      refine hK.out _ _ (fun h => by cases h) ?_
      clear hK K d0 fz
      refine wpSeqP_nil ?_
      refine NoPanic.normal ?_
      have Hb2 := Lib.hid (hbr.drew.setCell (p := ⟨gr, k, none⟩) hgr (.int .i64 r.hi))
      have ht2 : TabOwn (wr.drew.setCell ⟨gr, k, none⟩ (.int .i64 r.hi)) W0.heap.size (.slice (some ⟨g, 0, none⟩) d.blocks.length c) (tabL d.blocks (strK d.blocks b a (k + 1))) := by
        rw [← Hst.out, Hhi.out]
        exact tab_drew (Hset.out k r.hi)
      go_wp2
      go_roundw
      case rel => exact ⟨k + 1, by omega, by omega, by go_num, Hb2.out, ht2⟩
      case measure => simp [intOf]; omega
    · have kI : ¬ (k : Int) < (N : Int) := by omega
      have hkN : k = (d.blocks[b]?.getD []).length := by rw [Hgl.out, HN.out]; omega
      have Hall := Lib.hid (str_all (bl := d.blocks) (b := b) (e := a) hkN)
      have Hbr := Lib.hid hbr
      clear hkN hbr
      go_wp2
      go_ret
      have ht := Htb.out
      rw [Hall.out] at ht
      exact TabOwn.gives ht (by rw [tabL_len]) HB0.out.size (HB0.out.trans (Hbr.out.mono HB0.out.size))
set_option maxRecDepth 100000 in
set_option maxHeartbeats 4000000 in
theorem pressed_any (d : DDay) (u z : Value) (b a : Nat) (w : World) (hda : DayAt w u z d) (hd : DayOk d) (hi : InDay d b a) :
    Calls Tryz.prog 80 #[.agg #[.int .i64 d.law.piece, .int .i64 d.law.drive, .int .i64 d.law.spread, .int .i64 d.law.brk, .int .i64 d.law.on, .int .i64 d.law.off, .int .i64 d.law.least, .int .i64 d.law.pieces, u, z], .int .i64 (b : Int), .int .i64 (a : Int)] w (GivesTab w (tabL d.blocks (preT d.blocks b a))) := by
  obtain ⟨A1, c1, rfl, _, _⟩ := hda.blocks.form
  obtain ⟨A2, c2, rfl, _, _⟩ := hda.walk.form
  have hm := day_mild hd
  have hib := hi.1
  obtain ⟨l, hl⟩ : ∃ l, d.blocks[b]? = some l := ⟨_, List.getElem?_eq_getElem hib⟩
  have hgl : d.blocks[b]?.getD [] = l := by rw [hl]; rfl
  have hal : a < l.length := by have := hi.2; rw [hgl] at this; exact this
  have hll := hm.block b l hl
  obtain ⟨N, hN⟩ : ∃ N, l.length = N := ⟨_, rfl⟩
  rw [hN] at hal hll
  have hbI : (b : Int) < (d.blocks.length : Int) := by omega
  have HN := Lib.hid hN
  have Hl := Lib.hid hl
  have Hgl := Lib.hid hgl
  have Hda := Lib.hid hda
  have Hd := Lib.hid hd
  have Hm := Lib.hid hm
  clear hda hd hm hi hN hl hgl
  go_enter Tryz.func80, Tryz.ntmps80
  go_upto_region 1 with (fail)
  refine wp_name (fun W => Below w.heap.size w W ∧ W.heap[w.heap.size]? = some (.cells #[.int .i64 d.law.piece, .int .i64 d.law.drive, .int .i64 d.law.spread, .int .i64 d.law.brk, .int .i64 d.law.on, .int .i64 d.law.off, .int .i64 d.law.least, .int .i64 d.law.pieces, .slice A1 d.blocks.length c1, .slice A2 d.walk.length c2] 27 (0, 0))) ⟨(Below.refl _ _).alloc (Nat.le_refl _) _, heap_alloc_new w _⟩ (fun W0 hW => ?_)
  obtain ⟨hb0, hx0⟩ := hW
  have HB0 := Lib.hid hb0
  have HX0 := Lib.hid hx0
  clear hb0 hx0
  have gc := box_cells HX0.out
  go_wp2_with fail
  refine (Lows_apart d _ _ _ (Hda.out.below HB0.out) Hm.out).mono ?_
  rintro e1 w1 ⟨A, c, us, rfl, ho, hr, ha, hb1⟩
  have hle : (lowsL d.blocks).length = d.blocks.length := by simp [lowsL]
  have ht0 : TabOwn w1 W0.heap.size (.slice A d.blocks.length c) (tabL d.blocks (loT d.blocks)) := by
    rw [← lows_tab, ← hle]
    exact ⟨us, ho, hr, ha⟩
  rw [hle]
  obtain ⟨g, rfl⟩ : ∃ g, A = some ⟨g, 0, none⟩ := by
    rcases ho.2 with ⟨_, h0⟩ | ⟨g, cap, cur, e9, _⟩
    · omega
    · cases e9; exact ⟨g, rfl⟩
  have Ht0 := Lib.hid ht0
  have Hb1 := Lib.hid hb1
  clear ho hr ha hb1 hle ht0 gc
  have haI : IntKind.i64.wrap ((a : Int) + 1) = ((a + 1 : Nat) : Int) := by rw [IntWalk.i64_in _ (by omega)]; rfl
  go_wp2
  go_loopw [8] (fun s wr => ∃ k : Nat, k ≤ a + 1 ∧ s = .int .i64 (k : Int) ∧ Below W0.heap.size W0 wr ∧ TabOwn wr W0.heap.size (.slice (some ⟨g, 0, none⟩) d.blocks.length c) (tabL d.blocks (preA d.blocks b k))) (fun s wr => a + 1 - (intOf s).toNat)
  case atStart => exact ⟨0, by omega, rfl, Hb1.out, by rw [preA_zero]; exact Ht0.out⟩
  case round =>
    obtain ⟨k, hk, rfl, hbr, htb⟩ := hrel
    have Htb := Lib.hid htb
    by_cases hlt : k ≤ a
    · have kI : (k : Int) ≤ (a : Int) := by omega
      have kN : (k : Int) < (N : Int) := by omega
      obtain ⟨g1, c3, gr, cr, ev, hcell, hrow, hfz, hgr, htyp, hset⟩ := htb.at_ (tabL_get (preA d.blocks b k) hib) (by simp only [List.length_map, List.length_range]; rw [Hgl.out, HN.out]; omega)
      rw [tabL_len] at ev
      cases ev
      simp only [List.length_map, List.length_range] at hcell
      rw [Hgl.out, HN.out] at hcell
      have hset2 : ∀ j x, TabOwn (wr.setCell ⟨gr, j, none⟩ (.int .i64 x)) W0.heap.size (.slice (some ⟨g, 0, none⟩) d.blocks.length c) (tabL d.blocks (updT (preA d.blocks b k) b j x)) := fun j x => by
        have h := hset j x
        rw [tabL_set (preA d.blocks b k) j x hib] at h
        exact h
      have hrow2 : ∀ j, j < N → wr.cell? ⟨gr, j, none⟩ = some (.int .i64 ((preA d.blocks b k) b j)) := fun j hj => by
        refine hrow j _ ?_
        rw [List.getElem?_map, List.getElem?_range (by rw [Hgl.out, HN.out]; exact hj)]
        rfl
      have Hset := Lib.hid hset2
      have Hrow := Lib.hid hrow2
      have Hfz := Lib.hid hfz
      have Hcell := Lib.hid hcell
      clear hset hset2 hrow hrow2 hfz htb
      have hbw := HB0.out.trans (hbr.mono HB0.out.size)
      have hxr := (hbr.block _ (Array.getElem?_eq_some_iff.1 HX0.out).1).trans HX0.out
      obtain ⟨b2, o2, l2, u2, ea, hl2, c0, hrl, _⟩ := (Hda.out.blocks.below hbw).at_ (k := b) hib
      cases ea
      rw [Hl.out] at hl2
      cases hl2
      obtain ⟨A3, c4, rfl, _, _⟩ := hrl.form
      obtain ⟨b3, o3, r, ea, hr3, r0, r1, r2, _⟩ := hrl.at_ (k := k) (by rw [HN.out]; omega)
      subst ea
      have hhi : hiT d.blocks b k = r.hi := by unfold hiT relAt; rw [Hgl.out, hr3]; rfl
      rw [HN.out] at c0
      have Hhi := Lib.hid hhi
      have gx := box_cells hxr 8
      clear hr3 hrl hhi hxr hbw
      have Hst := Lib.hid (preA_step d.blocks b k)
      go_upto_region 5 with (fail)
      refine wp_region_noPanic ?_
      refine wp_region_pickX [0, 1, 2, 3, 4, 5, 6, 7, 8, 9, 10, 11, 12, 13, 14] [15, 16] (fun i => !(i == 16)) (fun w' => Below wr.heap.size wr w') (by kernel_rfl) (by kernel_rfl) (fun _ _ _ _ _ h => h) (Below.refl _ _).drew (fun hne => ?_)
      have n0 := fun q : Meets (fun w' => Below wr.heap.size wr w') => cell_below q.property hcell
      have n1 := fun q : Meets (fun w' => Below wr.heap.size wr w') => cell_below q.property gx
      have n2 := fun q : Meets (fun w' => Below wr.heap.size wr w') => cell_below q.property c0
      have n3 := fun q : Meets (fun w' => Below wr.heap.size wr w') => cell_below q.property r0
      have n4 := fun q : Meets (fun w' => Below wr.heap.size wr w') => cell_below q.property r1
      have n5 := fun q : Meets (fun w' => Below wr.heap.size wr w') => cell_below q.property r2
      simp only [pick, pickN, List.filterMap_cons, List.filterMap_nil, List.getElem?_cons_zero, List.getElem?_cons_succ, Option.map_some]
      repeat (change wpQuiet _ _ _ _ (_ :: _) _; go_big_quiet_step (fail))
      refine wpQuiet_nil ?_
      clear n0 n1 n2 n3 n4 n5 hne
      have hB0 : Below wr.heap.size wr wr.drew := (Below.refl _ _).drew
      have d0 := cell_below hB0 (Hrow.out k (by omega))
      have hgrl : gr < wr.heap.size := World.block_lt_of_cell? _ _ (Hrow.out k (by omega))
      have fz : ∀ o, wr.drew.frozen? ⟨gr, o, none⟩ = false := fun o => (hB0.frozen (p := ⟨gr, o, none⟩) hgrl).trans (Hfz.out o)
      refine wpSeqP_step (fun K hK => ?_)
      go_simp
      refine hK.out _ _ (fun _ => hB0) ?_
      clear hK K
      refine wpSeqP_step (fun K hK => ?_)
      go_simp
      refine hK.out _ _ (fun h => by cases h) ?_
      clear hK K d0 fz
      refine wpSeqP_nil ?_
      refine NoPanic.normal ?_
      have Hb2 := Lib.hid (hbr.drew.setCell (p := ⟨gr, k, none⟩) hgr (.int .i64 r.hi))
      have ht2 : TabOwn (wr.drew.setCell ⟨gr, k, none⟩ (.int .i64 r.hi)) W0.heap.size (.slice (some ⟨g, 0, none⟩) d.blocks.length c) (tabL d.blocks (preA d.blocks b (k + 1))) := by
        rw [← Hst.out, Hhi.out]
        exact tab_drew (Hset.out k r.hi)
      go_wp2
      go_roundw
      case rel => exact ⟨k + 1, by omega, by go_num, Hb2.out, ht2⟩
      case measure => simp [intOf]; omega
    · have kI : ¬ (k : Int) ≤ (a : Int) := by omega
      have hka : k = a + 1 := by omega
      subst hka
      have Htc := Lib.hid (preA_K d.blocks b a ▸ Htb.out)
      have Hbr := Lib.hid hbr
      clear hbr htb Htb
      obtain ⟨W2, hW2⟩ : ∃ W2, wr = W2 := ⟨_, rfl⟩
      rw [hW2] at Hbr Htc ⊢
      clear hW2
      go_wp2
      go_loopw [9] (fun s wr => ∃ k : Nat, a + 1 ≤ k ∧ k ≤ N ∧ s = .int .i64 (k : Int) ∧ Below W0.heap.size W0 wr ∧ TabOwn wr W0.heap.size (.slice (some ⟨g, 0, none⟩) d.blocks.length c) (tabL d.blocks (preK d.blocks b a k))) (fun s wr => N - (intOf s).toNat)
      case atStart => exact ⟨a + 1, by omega, by omega, by simp, Hbr.out, Htc.out⟩
      case round =>
        obtain ⟨k, hk1, hk2, rfl, hbr, htb⟩ := hrel
        have Htb := Lib.hid htb
        obtain ⟨g1, c3, gr, cr, ev, hcell, hrow, hfz, hgr, htyp, hset⟩ := htb.at_ (tabL_get (preK d.blocks b a k) hib) (by simp only [List.length_map, List.length_range]; rw [Hgl.out, HN.out]; omega)
        rw [tabL_len] at ev
        cases ev
        simp only [List.length_map, List.length_range] at hcell
        rw [Hgl.out, HN.out] at hcell
        have hset2 : ∀ j x, TabOwn (wr.setCell ⟨gr, j, none⟩ (.int .i64 x)) W0.heap.size (.slice (some ⟨g, 0, none⟩) d.blocks.length c) (tabL d.blocks (updT (preK d.blocks b a k) b j x)) := fun j x => by
          have h := hset j x
          rw [tabL_set (preK d.blocks b a k) j x hib] at h
          exact h
        have hrow2 : ∀ j, j < N → wr.cell? ⟨gr, j, none⟩ = some (.int .i64 ((preK d.blocks b a k) b j)) := fun j hj => by
          refine hrow j _ ?_
          rw [List.getElem?_map, List.getElem?_range (by rw [Hgl.out, HN.out]; exact hj)]
          rfl
        have Hset := Lib.hid hset2
        have Hrow := Lib.hid hrow2
        have Hfz := Lib.hid hfz
        have Hcell := Lib.hid hcell
        clear hset hset2 hrow hrow2 hfz htb
        by_cases hlt2 : k < N
        · have kI2 : (k : Int) < (N : Int) := by omega
          have kA : (a : Int) < (N : Int) := by omega
          have rk := Hrow.out k hlt2
          have ra := Hrow.out a (by omega)
          rw [show preK d.blocks b a k b k = loT d.blocks b k by unfold preK; rw [if_pos rfl, if_neg (by omega), if_neg (by omega)]] at rk
          rw [show preK d.blocks b a k b a = hiT d.blocks b a by unfold preK; rw [if_pos rfl, if_pos (Nat.le_refl _)]] at ra
          have Hst := Lib.hid (preK_step (bl := d.blocks) (b := b) (a := a) (k := k) (by omega))
          generalize loT d.blocks b k = lk at *
          generalize hiT d.blocks b a = ha at *
          go_upto_region 9 with (fail)
          refine wp_region_noPanic ?_
          refine wp_region_pickX [0, 1, 2, 3, 4, 5, 6, 7, 8, 9, 10, 11, 12, 13, 14, 15, 16, 17, 18] [19, 20, 21] (fun i => !(i == 21)) (fun w' => Below wr.heap.size wr w') (by kernel_rfl) (by kernel_rfl) (fun _ _ _ _ _ h => h) (Below.refl _ _).drew (fun hne => ?_)
          have n0 := fun q : Meets (fun w' => Below wr.heap.size wr w') => cell_below q.property hcell
          have n1 := fun q : Meets (fun w' => Below wr.heap.size wr w') => cell_below q.property rk
          have n2 := fun q : Meets (fun w' => Below wr.heap.size wr w') => cell_below q.property ra
          simp only [pick, pickN, List.filterMap_cons, List.filterMap_nil, List.getElem?_cons_zero, List.getElem?_cons_succ, Option.map_some]
          repeat (change wpQuiet _ _ _ _ (_ :: _) _; go_big_quiet_step (fail))
          refine wpQuiet_nil ?_
          clear n0 n1 n2 hne
          have hB0 : Below wr.heap.size wr wr.drew := (Below.refl _ _).drew
          have d0 := cell_below hB0 (Hrow.out k (by omega))
          have hgrl : gr < wr.heap.size := World.block_lt_of_cell? _ _ (Hrow.out k (by omega))
          have fz : ∀ o, wr.drew.frozen? ⟨gr, o, none⟩ = false := fun o => (hB0.frozen (p := ⟨gr, o, none⟩) hgrl).trans (Hfz.out o)
          refine wpSeqP_step (fun K hK => ?_)
          go_simp
          refine hK.out _ _ (fun _ => hB0) ?_
          clear hK K
          refine wpSeqP_step (fun K hK => ?_)
          go_simp
          refine hK.out _ _ (fun _ => hB0) ?_
          clear hK K
          refine wpSeqP_step (fun K hK => ?_)
          go_simp
          refine hK.out _ _ (fun h => by cases h) ?_
          clear hK K d0 fz
          refine wpSeqP_nil ?_
          refine NoPanic.normal ?_
          have Hb2 := Lib.hid (hbr.drew.setCell (p := ⟨gr, k, none⟩) hgr (.int .i64 (max lk ha)))
          have ht2 : TabOwn (wr.drew.setCell ⟨gr, k, none⟩ (.int .i64 (max lk ha))) W0.heap.size (.slice (some ⟨g, 0, none⟩) d.blocks.length c) (tabL d.blocks (preK d.blocks b a (k + 1))) := by
            rw [← Hst.out]
            exact tab_drew (Hset.out k (max lk ha))
          clear rk ra
          go_wp2
          go_roundw
          case rel => exact ⟨k + 1, by omega, by omega, by go_num, Hb2.out, ht2⟩
          case measure => simp [intOf]; omega
        · have kI2 : ¬ (k : Int) < (N : Int) := by omega
          have hkN : k = (d.blocks[b]?.getD []).length := by rw [Hgl.out, HN.out]; omega
          have Hall := Lib.hid (preK_all (bl := d.blocks) (b := b) (a := a) hkN)
          have Hbr := Lib.hid hbr
          clear hkN hbr
          go_wp2
          go_ret
          have ht := Htb.out
          rw [Hall.out] at ht
          exact TabOwn.gives ht (by rw [tabL_len]) HB0.out.size (HB0.out.trans (Hbr.out.mono HB0.out.size))
end Go.Proofs.YtllobkhdeahgpaaGreat
