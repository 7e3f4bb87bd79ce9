import Derived.Test.YtckgapeednokjaaGreatK5
import Derived.Test.YtckgapeednokjaaGreatTe
set_option linter.unusedVariables false
set_option linter.unusedSimpArgs false
namespace Go.Proofs.YtckgapeednokjaaGreat
open Go Go.Proofs Go.RowKit

/-! ### A timetable for the program -/
set_option maxRecDepth 100000 in
theorem copy1_any (v : Value) (l : List Int) (w : World) (hv : NumsAt .i64 w v l) (hl : l.length ≤ 1000000) : Calls Tryz.prog 90 #[v] w (GivesInts w l) := by
  obtain ⟨A, c, rfl, hc, hm⟩ := hv.form
  obtain ⟨i0, hi0, hz0, hz1, hz2⟩ := info_parts infoI
  go_enter Tryz.func90, Tryz.ntmps90
  go_wp2_with (at_builtin; refine wpList_append_src _ rfl (.const (.slice none 0 0)) (.tmp 3) 29 rfl w.heap.size 3 i0 _ 1 8 Tryz.underlying29 hi0 hz0 hz1 hz2 rfl (by omega) (.slice none 0 0) 0 [] rfl (World.ownsRow_nil _ _ _ _) A l.length c (l.map (.int .i64)) rfl (src_of_nums hv) (ints_one l) (by simp [maxLen]; omega) (by omega) (by simp) ?_; intro v1 w1 hown1 hg1 hat1)
  go_ret
  rw [Nat.zero_add, List.nil_append] at hown1
  obtain ⟨A1, c1, rfl⟩ := own_form hown1
  exact ⟨A1, c1, rfl, hown1, below_grown (Below.refl _ _) hg1 (Nat.le_refl _) (World.ownsRow_nil w w.heap.size 3 1) (Nat.le_refl _)⟩

set_option maxRecDepth 100000 in
theorem rows1_any (v : Value) (ll : List (List Int)) (w : World) (hv : RowsAt w v ll) (hl : ll.length ≤ 1000) (hll : ∀ (j : Nat) (l : List Int), ll[j]? = some l → l.length ≤ 1000) : Calls Tryz.prog 49 #[v] w (GivesRows w ll) := by
  obtain ⟨A, c, rfl, hc, hm⟩ := hv.form
  obtain ⟨i0, hi0, hz0, hz1, hz2⟩ := info_parts infoR
  have Hll := Lib.hid hll
  clear hll
  go_enter Tryz.func49, Tryz.ntmps49
  go_wp2
  go_loopw [3, 4] (fun x i wr => ∃ (k : Nat) (A' : Option Addr) (c' : Nat) (us : List Value), k ≤ ll.length ∧ i = .int .i64 k ∧ x = .slice A' k c' ∧ Below w.heap.size w wr ∧ wr.ownsRow w.heap.size 29 1 (.slice A' k c') k us ∧
      RowsOwn wr w.heap.size us (ll.take k)) (fun x i wr => ll.length - (intOf i).toNat)
  case atStart => exact ⟨0, none, 0, [], by omega, rfl, rfl, Below.refl _ _, World.ownsRow_nil _ _ _ _, ⟨by simp, by intro j l h; simp at h⟩⟩
  case round =>
    obtain ⟨k, A', c', us, hk, rfl, rfl, hb, hown, hro⟩ := hrel
    by_cases hlt : k < ll.length
    · obtain ⟨b, o, l, x, rfl, hl, dl, hx, _⟩ := (hv.below hb).at_ hlt
      have hl1 := Hll.out k l hl
      have Hl := Lib.hid hl
      clear hl
      have Hro := Lib.hid hro
      clear hro
      obtain ⟨B, C, rfl, hC, hC'⟩ := hx.form
      go_wp2_with (first
        | (go_at_call 90; refine (copy1_any _ l _ hx (by omega)).mono ?_; rintro e w1 ⟨A1, c1, rfl, hox, hb1⟩; have hown1 := own_below hown hb1)
        | (at_builtin; refine wpList_append_src _ rfl (.tmp 11) (.tmp 17) 45 rfl w.heap.size 29 i0 _ 1 24 Tryz.underlying45 hi0 hz0 hz1 hz2 rfl (by omega) _ k us rfl (hown1.alloc _) (some ⟨w1.heap.size, 0, none⟩) 1 1 [.slice A1 l.length c1] rfl (src_new w1 [.slice A1 l.length c1] 29 1 1 rfl) (by simp [Value.oneCell']) (by simp [maxLen]; omega) (by omega) (by have := hb.size; have := hb1.size; simp; omega) ?_; intro v2 w2 hown2 hg2 hat2; obtain ⟨A2, c2, rfl⟩ := own_form hown2))
      have hbw1 : Below w.heap.size w w1 := hb.trans (hb1.mono hb.size)
      have hba : Below w.heap.size w (w1.alloc (.cells #[.slice A1 l.length c1] 29)) := hbw1.alloc hbw1.size _
      have hg3 : (w1.alloc (.cells #[.slice A1 l.length c1] 29)).grownBy w2 (Value.slice A' k c').ownBlock := hg2
      clear hg2
      go_roundw
      case rel =>
        refine ⟨k + 1, A2, c2, us ++ [.slice A1 l.length c1], by omega, by go_num, rfl, below_grown hba hg3 (by have := hbw1.size; simp; omega) (hown1.alloc _) (Nat.le_refl _), hown2, ?_⟩
        rw [List.take_add_one, Hl.out]
        have h1 : RowsOwn (w1.alloc (.cells #[.slice A1 l.length c1] 29)) w.heap.size us (ll.take k) := (Hro.out.below hb1).below ((Below.refl _ _).alloc (Nat.le_refl _) _)
        exact (h1.kept (hown1.alloc _) (by decide) hg3).snoc (((own_mono hox hb.size).alloc _).kept hg3 (own_apart hox hown1 (by decide)))
      case measure => simp [intOf]; omega
    · have : k = ll.length := by omega
      subst this
      go_wp2
      go_ret
      rw [List.take_length] at hro
      exact ⟨A', c', us, rfl, hown, hro, hb⟩


def trC (x : Trip) : List Value := [.int .i64 x.fr, .int .i64 x.to, .int .i64 x.start, .int .i64 x.least, .int .i64 x.most, .int .i64 x.kind]
def trCells (l : List Trip) : List Value := l.flatMap trC
theorem trCells_snoc (l : List Trip) (r : Trip) : trCells (l ++ [r]) = trCells l ++ trC r := by simp [trCells]
theorem trips_of_own {w : World} {v : Value} {base : Nat} {e : TypeId} {n : Nat} {l : List Trip} (h : w.ownsRow base e 6 v n (trCells l)) : TripsAt w v l := by
  have hlen : (trCells l).length = l.length * 6 := flat_length (f := trC) (n := 6) (fun _ => rfl) l
  have hn : l.length = n := by have := h.1; omega
  rcases h.2 with ⟨rfl, h0⟩ | ⟨g, cap, cur, rfl, _, hg, hc, hm, hs, ht⟩
  · have : l.length = 0 := by omega
    exact ⟨none, 0, by rw [this], by omega, by simp [maxLen], fun hp => by omega⟩
  · refine ⟨some ⟨g, 0, none⟩, cap, by rw [hn], by omega, hm, fun hp => ⟨g, 0, rfl, fun k s hk => ?_⟩⟩
    have hk' := (List.getElem?_eq_some_iff.1 hk).1
    have key : ∀ j, j < 6 → w.cell? ⟨g, 0 + k * 6 + j, none⟩ = (trC s)[j]? := fun j hj => by
      rw [Nat.zero_add, h.cellAt (k * 6 + j) (by omega)]
      exact flat_get (f := trC) (n := 6) (fun _ => rfl) hk hj
    exact ⟨key 0 (by omega), key 1 (by omega), key 2 (by omega), key 3 (by omega), key 4 (by omega), key 5 (by omega)⟩
theorem infoTr : (Tryz.prog.info? 112).map (fun i => (i.zero, i.size, i.bytes)) = some (some (.agg #[.int .i64 0, .int .i64 0, .int .i64 0, .int .i64 0, .int .i64 0, .int .i64 0]), 6, 48) := by kernel_rfl
/-- A timetable in new memory. -/
def GivesTable (t : Tab) (w : World) (e : Ending) (w' : World) : Prop := ∃ (A B : Option Addr) (c b : Nat), e = .returned (.agg #[.int .i64 t.places, .int .i64 t.lay, .slice A t.empty.length c, .slice B t.trips.length b]) ∧
  TabAt w' (.slice A t.empty.length c) (.slice B t.trips.length b) t ∧ Below w.heap.size w w'
structure TabMid (w wr : World) (t : Tab) (g : Nat) (u z : Value) (Aw : Option Addr) (cw : Nat) (usw : List Value) (k : Nat) (A : Option Addr) (c : Nat) : Prop where
  bel : Below w.heap.size w wr
  box : wr.heap[w.heap.size]? = some (.cells #[.int .i64 t.places, .int .i64 t.lay, u, z] 48 (0, 0))
  ret : wr.heap[w.heap.size + 1]? = some (.cells #[.int .i64 0, .int .i64 0, .slice none 0 0, .slice none 0 0] 58 (0, 0))
  out : wr.heap[g]? = some (.cells #[.int .i64 t.places, .int .i64 t.lay, .slice Aw t.empty.length cw, .slice A k c] 58 (0, 0))
  walk : wr.ownsRow w.heap.size 29 1 (.slice Aw t.empty.length cw) t.empty.length usw
  rows : RowsOwn wr w.heap.size usw t.empty
  rels : wr.ownsRow w.heap.size 112 6 (.slice A k c) k (trCells (t.trips.take k))
theorem TabMid.below {w wr wr' : World} {t : Tab} {g : Nat} {u z : Value} {Aw : Option Addr} {cw : Nat} {usw : List Value} {k : Nat} {A : Option Addr} {c : Nat} (h : TabMid w wr t g u z Aw cw usw k A c) (hb : Below wr.heap.size wr wr') : TabMid w wr' t g u z Aw cw usw k A c :=
  ⟨h.bel.trans (hb.mono h.bel.size), (hb.block _ (Array.getElem?_eq_some_iff.1 h.box).1).trans h.box, (hb.block _ (Array.getElem?_eq_some_iff.1 h.ret).1).trans h.ret, (hb.block _ (Array.getElem?_eq_some_iff.1 h.out).1).trans h.out,
    own_below h.walk hb, h.rows.below hb, own_below h.rels hb⟩
/-- One trip more: it is appended, and the slice is stored. -/
theorem TabMid.next {w wr wa w1 : World} {t : Tab} {g : Nat} {u z : Value} {Aw : Option Addr} {cw : Nat} {usw : List Value} {k : Nat} {A AA : Option Addr} {c cc : Nat} {x : Trip} {n : Nat} (h : TabMid w wr t g u z Aw cw usw k A c) (hgw : n ≤ g) (hwn : w.heap.size + 1 < n)
    (hl : t.trips[k]? = some x) (hba : Below wr.heap.size wr wa) (ho : w1.ownsRow w.heap.size 112 6 (.slice AA (k + 1) cc) (k + 1) (trCells (t.trips.take k) ++ trC x)) (hg : wa.grownBy w1 (Value.slice A k c).ownBlock) :
    TabMid w (w1.setCell ⟨g, 3, none⟩ (.slice AA (k + 1) cc)) t g u z Aw cw usw (k + 1) AA cc := by
  have h1 := h.below hba
  have hkeep : ∀ (B : Nat) (xs : Array Value) (e : TypeId), wa.heap[B]? = some (.cells xs e (0, 0)) → 112 ≠ e → w1.heap[B]? = some (.cells xs e (0, 0)) := fun B xs e hB hne =>
    (hg.block B (Array.getElem?_eq_some_iff.1 hB).1 (own_not h1.rels hB hne)).trans hB
  have hP := hkeep _ _ _ h1.out (by decide)
  refine ⟨?_, ?_, ?_, ?_, ?_, ?_, ?_⟩
  · exact (h1.bel.grown hg h1.bel.size fun q hq => (h1.rels.lt q hq).1).setCell (p := ⟨g, 3, none⟩) (by simp; omega) _
  · exact blk_other (hkeep _ _ _ h1.box (by decide)) (by omega) _
  · exact blk_other (hkeep _ _ _ h1.ret (by decide)) (by omega) _
  · have := blk_set hP (o := 3) (.slice AA (k + 1) cc)
    simpa only [List.setIfInBounds_toArray, List.set_cons_succ, List.set_cons_zero] using this
  · have h2 := h1.walk.kept hg (own_apart h1.walk h1.rels (by decide))
    exact own_set h2 (own_not h2 hP (by decide)) _
  · exact (h1.rows.kept h1.rels (by decide) hg).set hP (by decide) _
  · rw [List.take_add_one, hl, Option.toList_some, trCells_snoc]
    exact own_set ho (own_not ho hP (by decide)) _
set_option maxRecDepth 100000 in
set_option maxHeartbeats 6400000 in
theorem Table1_any (t : Tab) (u z : Value) (w : World) (hT : TabAt w u z t) (ht : TabOk t) : Calls Tryz.prog 17 #[.agg #[.int .i64 t.places, .int .i64 t.lay, u, z]] w (GivesTable t w) := by
  obtain ⟨A1, c1, rfl, hc1, hm1⟩ := hT.rows.form
  obtain ⟨A2, c2, rfl, hc2, hm2⟩ := hT.trips.form
  obtain ⟨i0, hi0, hz0, hz1, hz2⟩ := info_parts infoTr
  have h12 := ht.trips
  have hR6 : t.empty.length ≤ 6 := by have := ht.rows; have := ht.places; omega
  have HT := Lib.hid hT
  have Ht := Lib.hid ht
  clear hT ht
  go_enter Tryz.func17, Tryz.ntmps17
  go_upto_region 1 with (fail)
  refine wp_name (fun W => Below w.heap.size w W ∧ w.heap.size + 1 < W.heap.size ∧ W.heap[w.heap.size]? = some (.cells #[.int .i64 t.places, .int .i64 t.lay, .slice A1 t.empty.length c1, .slice A2 t.trips.length c2] 48 (0, 0)) ∧
    W.heap[w.heap.size + 1]? = some (.cells #[.int .i64 0, .int .i64 0, .slice none 0 0, .slice none 0 0] 58 (0, 0))) ⟨two_belowT w _ _, by simp, (Below.heap_alloc _ _ _ (by simp)).trans (heap_alloc_new w _), heap_alloc2_new w _ _⟩ (fun W hW => ?_)
  obtain ⟨hbW, hsW, g0, g1⟩ := hW
  have G0 := Lib.hid g0
  have G1 := Lib.hid g1
  have hwk := HT.out.rows.below hbW
  have Hrow := Lib.hid (fun (V : World) (h : Below W.heap.size W V) => rows1_any _ t.empty V (hwk.below h) (by omega) (fun j l hl => by have := (Ht.out.row j l hl).1; have := Ht.out.places; omega))
  clear g0 g1 hwk
  go_cut [3] from 6 to 13 (fun z wx => ∃ g A c us, z = .pointer (some ⟨g, 0, none⟩) ∧ Below W.heap.size W wx ∧ W.heap.size ≤ g ∧ wx.heap[g]? = some (.cells #[.int .i64 t.places, .int .i64 t.lay, .slice A t.empty.length c, .slice none 0 0] 58 (0, 0)) ∧
    wx.ownsRow W.heap.size 29 1 (.slice A t.empty.length c) t.empty.length us ∧ RowsOwn wx W.heap.size us t.empty)
  case first =>
    have d0 : Below W.heap.size W W.drew := (Below.refl _ _).drew
    have l := box_cells G0.out
    refine wp_region_noPanic ?_
    refine wp_region_pickA [0, 1, 2, 3, 4, 5] 4 (fun _ => true) (fun w' => Below W.heap.size W w') (by kernel_rfl) (by kernel_rfl) (fun _ _ _ _ _ h => h) d0 (fun hne => ?_)
    have n0 := fun x : Meets (fun w' => Below W.heap.size W w') => cell_below x.property (l 0)
    have n1 := fun x : Meets (fun w' => Below W.heap.size W w') => cell_below x.property (l 1)
    have n2 := fun x : Meets (fun w' => Below W.heap.size W w') => cell_below x.property (l 2)
    clear l
    simp only [pick, pickN, List.filterMap_cons, List.filterMap_nil, List.getElem?_cons_zero, List.getElem?_cons_succ, Option.map_some]
    repeat (change wpQuiet _ _ _ _ (_ :: _) _; go_big_quiet_step (fail))
    refine wpQuiet_nil ?_
    clear n0 n1 n2 hne
    refine wpAnyF_two (i := 6) (j := 8) (by kernel_rfl) rfl rfl (fun K hK => ?_) (fun K hK => ?_)
    · skip
      go_simp
      refine (Hrow.out _ d0).mono ?_
      rintro e v1 ⟨A, c, us, rfl, ho, hr, he1⟩
      have hB1 := d0.trans (he1.mono d0.size)
      replace ho := own_mono ho d0.size
      replace hr := hr.mono d0.size
      refine hK.out _ _ (fun _ => hB1) ?_
      clear hK K
      refine wpAnyF_two (i := 7) (j := 8) (by kernel_rfl) rfl rfl (fun K hK => ?_) (fun K hK => ?_)
      · skip
        go_simp
        refine hK.out _ _ (fun _ => hB1) ?_
        clear hK K
        refine wpAnyF_one (i := 8) (by kernel_rfl) rfl (fun K hK => ?_)
        go_simp
        have hB2 := hB1.alloc hB1.size (.cells #[.int .i64 0, .int .i64 0, .slice none 0 0, .slice none 0 0] 58)
        have bx2 := heap_alloc_new v1 (.cells #[.int .i64 0, .int .i64 0, .slice none 0 0, .slice none 0 0] 58)
        have gl2 : W.heap.size ≤ v1.heap.size := hB1.size
        replace hr := hr.below ((Below.refl v1.heap.size v1).alloc (Nat.le_refl _) (.cells #[.int .i64 0, .int .i64 0, .slice none 0 0, .slice none 0 0] 58))
        replace ho := ho.alloc (.cells #[.int .i64 0, .int .i64 0, .slice none 0 0, .slice none 0 0] 58)
        refine hK.out _ _ (fun _ => hB2) ?_
        clear hK K
        obtain ⟨g, hg⟩ : ∃ g, v1.heap.size = g := ⟨_, rfl⟩
        rw [hg] at bx2 gl2 ⊢
        generalize (v1.alloc (.cells #[.int .i64 0, .int .i64 0, .slice none 0 0, .slice none 0 0] 58)) = v2 at *
        refine wpAnyF_one (i := 9) (by kernel_rfl) rfl (fun K hK => ?_)
        have gf := box_frozen bx2
        have gc := box_cells bx2
        go_simp
        have hB3 : Below W.heap.size W _ := ((((hB2).setCell (p := ⟨g, 0, none⟩) gl2 (.int .i64 t.places)).setCell (p := ⟨g, 1, none⟩) gl2 (.int .i64 t.lay)).setCell (p := ⟨g, 2, none⟩) gl2 (.slice A t.empty.length c)).setCell (p := ⟨g, 3, none⟩) gl2 (.slice none 0 0)
        refine hK.out _ _ (fun _ => hB3) ?_
        clear hK K gf gc
        have hgr := (grown_setB (grown_setB (grown_setB (grown_setB (World.grownBy.refl v2 (some g)) 0 (.int .i64 t.places)) 1 (.int .i64 t.lay)) 2 (.slice A t.empty.length c)) 3 (.slice none 0 0))
        have bx3 := (blk_set (blk_set (blk_set (blk_set bx2 (o := 0) (.int .i64 t.places)) (o := 1) (.int .i64 t.lay)) (o := 2) (.slice A t.empty.length c)) (o := 3) (.slice none 0 0))
        have ho3 := own_keptB ho bx2 (by decide) hgr
        have hr3 := hr.keptB bx2 (by decide) hgr
        refine wpAnyF_done (by kernel_rfl) ?_ _
        refine NoPanic.normal ?_
        go_wp2_with fail
        go_meet
        case rel => exact ⟨g, A, c, us, rfl, hB3, gl2, by simpa only [List.setIfInBounds_toArray, List.set_cons_succ, List.set_cons_zero] using bx3, ho3, hr3⟩
      · skip
        go_simp
        have hB2 := hB1.alloc hB1.size (.cells #[.int .i64 0, .int .i64 0, .slice none 0 0, .slice none 0 0] 58)
        have bx2 := heap_alloc_new v1 (.cells #[.int .i64 0, .int .i64 0, .slice none 0 0, .slice none 0 0] 58)
        have gl2 : W.heap.size ≤ v1.heap.size := hB1.size
        replace hr := hr.below ((Below.refl v1.heap.size v1).alloc (Nat.le_refl _) (.cells #[.int .i64 0, .int .i64 0, .slice none 0 0, .slice none 0 0] 58))
        replace ho := ho.alloc (.cells #[.int .i64 0, .int .i64 0, .slice none 0 0, .slice none 0 0] 58)
        refine hK.out _ _ (fun _ => hB2) ?_
        clear hK K
        obtain ⟨g, hg⟩ : ∃ g, v1.heap.size = g := ⟨_, rfl⟩
        rw [hg] at bx2 gl2 ⊢
        generalize (v1.alloc (.cells #[.int .i64 0, .int .i64 0, .slice none 0 0, .slice none 0 0] 58)) = v2 at *
        refine wpAnyF_one (i := 7) (by kernel_rfl) rfl (fun K hK => ?_)
        go_simp
        refine hK.out _ _ (fun _ => hB2) ?_
        clear hK K
        refine wpAnyF_one (i := 9) (by kernel_rfl) rfl (fun K hK => ?_)
        have gf := box_frozen bx2
        have gc := box_cells bx2
        go_simp
        have hB3 : Below W.heap.size W _ := ((((hB2).setCell (p := ⟨g, 0, none⟩) gl2 (.int .i64 t.places)).setCell (p := ⟨g, 1, none⟩) gl2 (.int .i64 t.lay)).setCell (p := ⟨g, 2, none⟩) gl2 (.slice A t.empty.length c)).setCell (p := ⟨g, 3, none⟩) gl2 (.slice none 0 0)
        refine hK.out _ _ (fun _ => hB3) ?_
        clear hK K gf gc
        have hgr := (grown_setB (grown_setB (grown_setB (grown_setB (World.grownBy.refl v2 (some g)) 0 (.int .i64 t.places)) 1 (.int .i64 t.lay)) 2 (.slice A t.empty.length c)) 3 (.slice none 0 0))
        have bx3 := (blk_set (blk_set (blk_set (blk_set bx2 (o := 0) (.int .i64 t.places)) (o := 1) (.int .i64 t.lay)) (o := 2) (.slice A t.empty.length c)) (o := 3) (.slice none 0 0))
        have ho3 := own_keptB ho bx2 (by decide) hgr
        have hr3 := hr.keptB bx2 (by decide) hgr
        refine wpAnyF_done (by kernel_rfl) ?_ _
        refine NoPanic.normal ?_
        go_wp2_with fail
        go_meet
        case rel => exact ⟨g, A, c, us, rfl, hB3, gl2, by simpa only [List.setIfInBounds_toArray, List.set_cons_succ, List.set_cons_zero] using bx3, ho3, hr3⟩
    · skip
      go_simp
      have hB0 : Below W.heap.size W ((W.alloc (.cells #[.int .i64 0, .int .i64 0, .slice none 0 0, .slice none 0 0] 58)).drew) := ((Below.refl W.heap.size W).alloc (Nat.le_refl _) _).drew
      have bx0 : ((W.alloc (.cells #[.int .i64 0, .int .i64 0, .slice none 0 0, .slice none 0 0] 58)).drew).heap[W.heap.size]? = some (.cells #[.int .i64 0, .int .i64 0, .slice none 0 0, .slice none 0 0] 58 (0, 0)) := heap_alloc_new W (.cells #[.int .i64 0, .int .i64 0, .slice none 0 0, .slice none 0 0] 58)
      refine hK.out _ _ (fun _ => hB0) ?_
      clear hK K
      obtain ⟨g, hg⟩ : ∃ g, W.heap.size = g := ⟨_, rfl⟩
      have gl2 : W.heap.size ≤ g := by omega
      have HG := Lib.hid hg
      rw [show ({ block := W.heap.size, off := 0 } : Addr) = ⟨g, 0, none⟩ by rw [hg]]
      rw [hg] at bx0
      clear hg
      generalize ((W.alloc (.cells #[.int .i64 0, .int .i64 0, .slice none 0 0, .slice none 0 0] 58)).drew) = v0 at *
      refine wpAnyF_one (i := 6) (by kernel_rfl) rfl (fun K hK => ?_)
      go_simp
      refine (Hrow.out _ hB0).mono ?_
      rintro e v1 ⟨A, c, us, rfl, ho, hr, he1⟩
      have hB2 := hB0.trans (he1.mono hB0.size)
      replace ho := own_mono ho hB0.size
      replace hr := hr.mono hB0.size
      have bx2 := (he1.block g (Array.getElem?_eq_some_iff.1 bx0).1).trans bx0
      refine hK.out _ _ (fun _ => hB2) ?_
      clear hK K
      obtain ⟨v2, rfl⟩ : ∃ v2 : World, v2 = v1 := ⟨_, rfl⟩
      refine wpAnyF_one (i := 7) (by kernel_rfl) rfl (fun K hK => ?_)
      go_simp
      refine hK.out _ _ (fun _ => hB2) ?_
      clear hK K
      refine wpAnyF_one (i := 9) (by kernel_rfl) rfl (fun K hK => ?_)
      have gf := box_frozen bx2
      have gc := box_cells bx2
      go_simp
      have hB3 : Below W.heap.size W _ := ((((hB2).setCell (p := ⟨g, 0, none⟩) gl2 (.int .i64 t.places)).setCell (p := ⟨g, 1, none⟩) gl2 (.int .i64 t.lay)).setCell (p := ⟨g, 2, none⟩) gl2 (.slice A t.empty.length c)).setCell (p := ⟨g, 3, none⟩) gl2 (.slice none 0 0)
      refine hK.out _ _ (fun _ => hB3) ?_
      clear hK K gf gc
      have hgr := (grown_setB (grown_setB (grown_setB (grown_setB (World.grownBy.refl v2 (some g)) 0 (.int .i64 t.places)) 1 (.int .i64 t.lay)) 2 (.slice A t.empty.length c)) 3 (.slice none 0 0))
      have bx3 := (blk_set (blk_set (blk_set (blk_set bx2 (o := 0) (.int .i64 t.places)) (o := 1) (.int .i64 t.lay)) (o := 2) (.slice A t.empty.length c)) (o := 3) (.slice none 0 0))
      have ho3 := own_keptB ho bx2 (by decide) hgr
      have hr3 := hr.keptB bx2 (by decide) hgr
      refine wpAnyF_done (by kernel_rfl) ?_ _
      refine NoPanic.normal ?_
      go_wp2_with fail
      go_meet
      case rel => exact ⟨g, A, c, us, rfl, hB3, gl2, by simpa only [List.setIfInBounds_toArray, List.set_cons_succ, List.set_cons_zero] using bx3, ho3, hr3⟩
  case rest =>
    obtain ⟨g, Aw, cw, usw, rfl, hbw, hgl, hgb, hown, hro⟩ := hcut
    rename World => V
    have hst : TabMid w V t g (.slice A1 t.empty.length c1) (.slice A2 t.trips.length c2) Aw cw usw 0 none 0 :=
      ⟨hbW.trans (hbw.mono hbW.size), (hbw.block _ (by omega)).trans G0.out, (hbw.block _ (by omega)).trans G1.out, hgb, own_mono hown hbW.size, hro.mono hbW.size, World.ownsRow_nil _ _ _ _⟩
    have Hst := Lib.hid hst
    clear hbw hgb hown hro hst
    go_wp2
    go_loopw [4] (fun i wr => ∃ (k : Nat) (A : Option Addr) (c : Nat), k ≤ t.trips.length ∧ i = .int .i64 k ∧ TabMid w wr t g (.slice A1 t.empty.length c1) (.slice A2 t.trips.length c2) Aw cw usw k A c) (fun i wr => t.trips.length - (intOf i).toNat)
    case atStart => exact ⟨0, _, _, by omega, rfl, Hst.out⟩
    case round =>
      obtain ⟨k, A, c, hk, rfl, hM⟩ := hrel
      obtain ⟨wo, rfl⟩ : ∃ wo : World, wo = wr := ⟨_, rfl⟩
      have HM := Lib.hid hM
      have b8 := box_cells HM.out.box
      have hsz := hM.bel.size
      have hBlt : w.heap.size < wo.heap.size := (Array.getElem?_eq_some_iff.1 hM.box).1
      have hglt : g < wo.heap.size := (Array.getElem?_eq_some_iff.1 hM.out).1
      clear hM
      by_cases hlt : k < t.trips.length
      · obtain ⟨b, o, x, rfl, hx, x0, x1, x2, x3, x4, x5, hblt⟩ := (HT.out.trips.below HM.out.bel).at_ hlt
        have Hx := Lib.hid hx
        have o8 := box_cells HM.out.out
        have of := box_frozen HM.out.out
        clear hx
        go_wp2_with (at_builtin; refine wpList_append_src _ rfl (.tmp 27) (.tmp 41) 56 rfl w.heap.size 112 i0 _ 6 48 Tryz.underlying56 hi0 hz0 hz1 hz2 rfl (by omega) _ k _ rfl ((HM.out.rels.alloc _).alloc _) (some ⟨wo.heap.size + 1, 0, none⟩) 1 1 (trC x) rfl (src_newN (m := 1) (size := 6) rfl (by simp)) (by simp [trC, Value.oneCell']) (by simp [maxLen]; omega) (by omega) (by simp; omega) ?_; intro v1 w1 hown1 hg1 hat1; have Hg1 := Lib.hid hg1; obtain ⟨AA1, cc1, rfl⟩ := own_form hown1; have Hown1 := Lib.hid hown1; have k3 := own_grow (HM.out.rels.alloc _) ((Below.heap_alloc wo _ g hglt).trans HM.out.out) (by decide) hg1; have g81 := box_cells k3; have gf1 := box_frozen k3; clear hown1 hg1 hat1 k3)
        go_roundw
        case rel => exact ⟨k + 1, AA1, cc1, by omega, by go_num, HM.out.next hgl (by omega) Hx.out (two_belowT wo _ _) Hown1.out Hg1.out⟩
        case measure => simp [intOf]; omega
      · obtain rfl : k = t.trips.length := by omega
        have hM := HM.out
        have g1 := hM.ret
        have f1 := box_frozen g1
        have x1 := box_cells g1
        have gg := box_cells hM.out
        clear hM
        go_wp2
        have hgr := (grown_setB (grown_setB (grown_setB (grown_setB (World.grownBy.refl wo (some (w.heap.size + 1))) 0 (.int .i64 t.places)) 1 (.int .i64 t.lay)) 2 (.slice Aw t.empty.length cw)) 3 (.slice A t.trips.length c))
        have bx3 := (blk_set (blk_set (blk_set (blk_set HM.out.ret (o := 0) (.int .i64 t.places)) (o := 1) (.int .i64 t.lay)) (o := 2) (.slice Aw t.empty.length cw)) (o := 3) (.slice A t.trips.length c))
        have hB3 := ((((HM.out.bel).setCell (p := ⟨w.heap.size + 1, 0, none⟩) (by simp) (.int .i64 t.places)).setCell (p := ⟨w.heap.size + 1, 1, none⟩) (by simp) (.int .i64 t.lay)).setCell (p := ⟨w.heap.size + 1, 2, none⟩) (by simp) (.slice Aw t.empty.length cw)).setCell (p := ⟨w.heap.size + 1, 3, none⟩) (by simp) (.slice A t.trips.length c)
        simp only [List.setIfInBounds_toArray, List.set_cons_succ, List.set_cons_zero] at bx3
        have hrel := own_keptB HM.out.rels HM.out.ret (by decide) hgr
        rw [List.take_length] at hrel
        have hwl := own_keptB HM.out.walk HM.out.ret (by decide) hgr
        have hrw := HM.out.rows.keptB HM.out.ret (by decide) hgr
        refine bodyPost_ret (results_cell_row rfl _ _ (w.heap.size + 1) 58 #[.int .i64 t.places, .int .i64 t.lay, .slice Aw t.empty.length cw, .slice A t.trips.length c] (0, 0) _ rfl bx3 rfl rfl (by kernel_rfl)) rfl ⟨Aw, A, cw, c, rfl, ⟨rows_of_own hwl hrw, trips_of_own hrel⟩, hB3⟩
end Go.Proofs.YtckgapeednokjaaGreat
