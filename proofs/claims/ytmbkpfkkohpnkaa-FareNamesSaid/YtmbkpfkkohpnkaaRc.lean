import Derived.Test.YtmbkpfkkohpnkaaRb
set_option linter.unusedVariables false
set_option linter.unusedSimpArgs false
namespace Go.Proofs.Ytmbkpfkkohpnkaa
open Go Go.Proofs Go.RowKit

/-! ### What the laws hand to the program -/
def wordL (ws : List Int) (k : Nat) : Int := if ws.length = 0 then 0 else (ws[k % ws.length]?).getD 0
set_option maxRecDepth 100000 in
theorem word_any (v : Value) (ws : List Int) (k : Nat) (w : World) (hv : NumsAt .u16 w v ws) (hw : ∀ x ∈ ws, 0 ≤ x ∧ x ≤ 65535) (hk : k ≤ 1000000) : Calls Try.prog 39 #[v, .int .i64 (k : Int)] w (Gives w (.int .i64 (wordL ws k))) := by
  obtain ⟨A, c, rfl, hc, hm⟩ := hv.form
  by_cases h0 : ws.length = 0
  · have i0 : ((ws.length : Int) == 0) = true := by simp [h0]
    have hl : wordL ws k = 0 := if_pos h0
    have Hl := Lib.hid hl
    clear h0 hl
    go_enter Try.func39, Try.ntmps39
    go_wp2
    go_ret
    exact gives_int Hl.out.symm (Below.refl _ _)
  · have i0 : ((ws.length : Int) == 0) = false := beq_eq_false_iff_ne.2 (fun h => h0 (by omega))
    have hlt : k % ws.length < ws.length := Nat.mod_lt _ (by omega)
    obtain ⟨b, o, x, rfl, hx, dx, _⟩ := hv.at_ hlt
    have hl : wordL ws k = x := by unfold wordL; rw [if_neg h0, hx]; rfl
    have hxb := hw x (List.mem_of_getElem? hx)
    have hcv : IntKind.i64.wrap x = x := IntWalk.i64_in _ (by have h1 := hxb.1; have h2 := hxb.2; omega)
    have ez : ¬ ((ws.length : Int) = 0) := by omega
    have er : (Int.tmod (k : Int) (ws.length : Int)) = ((k % ws.length : Nat) : Int) := by
      rw [Int.tmod_eq_emod_of_nonneg (by omega)]
      rfl
    have eq2 : IntKind.i64.wrap ((k % ws.length : Nat) : Int) = ((k % ws.length : Nat) : Int) := IntWalk.i64_in _ (by omega)
    obtain ⟨m, hm2⟩ : ∃ m, k % ws.length = m := ⟨_, rfl⟩
    rw [hm2] at er eq2 hlt dx
    have im : (m : Int) < (ws.length : Int) := by omega
    have Hl := Lib.hid hl
    clear hl hx hxb h0 hm2
    go_enter Try.func39, Try.ntmps39
    go_wp2
    go_ret
    exact gives_int Hl.out.symm (Below.refl _ _)
set_option maxRecDepth 100000 in
theorem ride_law (r : Rd) (w : World) : Calls Try.prog 40 #[.agg #[.int .i64 r.day, .int .i64 r.minute, .int .i64 r.low, .int .i64 r.high]] w (Gives w (.agg #[.int .i64 r.day, .int .i64 r.minute, .int .i64 r.low, .int .i64 r.high])) := by
  go_enter Try.func40, Try.ntmps40
  go_wp2
  refine bodyPost_ret (v := .agg #[.int .i64 r.day, .int .i64 r.minute, .int .i64 r.low, .int .i64 r.high]) (by simp [results, Try.results40, go_sem]) rfl ?_
  exact ⟨rfl, two_below w _ _⟩
set_option maxRecDepth 100000 in
set_option maxHeartbeats 1000000 in
theorem Rides_law (v : Value) (l : List Rd) (w : World) (hv : RdsAt w v l) (hl : l.length ≤ 1000000) : Calls Try.prog 22 #[v] w (GivesRds w l) := by
  obtain ⟨Av, cv, rfl, _, _⟩ := hv.form
  obtain ⟨i0, hi0, hz0, hz1, hz2⟩ := info_parts info_rds
  have ho0 : w.ownsRow w.heap.size 70 4 (.slice none 0 0) 0 ([] : List Value) := World.ownsRow_nil _ _ _ _
  have Hv := Lib.hid hv
  clear hv
  go_enter Try.func22, Try.ntmps22
  go_wp2
  go_loopw [3, 4] (fun o s wr => ∃ (k : Nat) (A : Option Addr) (c : Nat), k ≤ l.length ∧ o = .slice A k c ∧ s = .int .i64 k ∧ Below w.heap.size w wr ∧ wr.ownsRow w.heap.size 70 4 (.slice A k c) k ((l.take k).flatMap rdC)) (fun o s wr => l.length - (intOf s).toNat)
  case atStart => exact ⟨0, none, 0, by omega, rfl, rfl, Below.refl _ _, ho0⟩
  case round =>
    obtain ⟨k, A, c, hk, rfl, rfl, hbr, hor⟩ := hrel
    have Hbr := Lib.hid hbr
    have Hor := Lib.hid hor
    clear hbr hor ho0
    by_cases hlt : k < l.length
    · obtain ⟨bb, oo, x, rfl, hx, d0, d1, d2, d3, _⟩ := (Hv.out.below Hbr.out).at_ (k := k) hlt
      have ik : (k : Int) < (l.length : Int) := by omega
      have htk : l.take (k + 1) = l.take k ++ [x] := by rw [List.take_add_one, hx]; rfl
      have Htk := Lib.hid htk
      clear hx htk
      go_wp2_with fail
      refine (ride_law x wr).mono ?_
      rintro e w5 ⟨rfl, hb5⟩
      have Hb5 := Lib.hid (Hbr.out.trans (hb5.mono Hbr.out.size))
      have Ho5 := Lib.hid (own_below Hor.out hb5)
      clear hb5 d0 d1 d2 d3
      go_wp2_with (at_builtin; refine wpList_append_src _ rfl (.tmp 11) (.tmp 17) 37 rfl w.heap.size 70 i0 _ 4 32 Try.underlying37 hi0 hz0 hz1 hz2 rfl (by omega) _ k _ rfl (Ho5.out.alloc _) (some ⟨w5.heap.size, 0, none⟩) 1 1 (rdC x) rfl (src_new w5 (rdC x) 70 1 4 rfl) (by simp [rdC, Value.oneCell']) (by unfold maxLen; omega) (by omega) (Nat.le_trans Hb5.out.size (by simp)) ?_; intro v6 w6 hown6 hg6 hat6)
      have hb6 : Below w.heap.size w w6 := below_grown (Hb5.out.alloc Hb5.out.size _) hg6 (Nat.le_trans Hb5.out.size (by simp)) (Ho5.out.alloc _) (Nat.le_refl _)
      obtain ⟨A6, c6, rfl⟩ := own_form hown6
      have Hb6 := Lib.hid hb6
      have Ho6 := Lib.hid hown6
      clear hown6 hg6 hat6 hb6
      go_roundw
      case rel =>
        refine ⟨k + 1, A6, c6, by omega, rfl, by go_num, Hb6.out, ?_⟩
        rw [Htk.out, List.flatMap_append]
        simpa using Ho6.out
      case measure => simp [intOf]; omega
    · have hke : k = l.length := by omega
      have ik : ¬ (k : Int) < (l.length : Int) := by omega
      go_wp2
      go_ret
      have ho := Hor.out
      rw [hke, List.take_length] at ho
      exact ⟨A, c, rfl, rds_own ho, Hbr.out⟩
theorem thin_iff {t : Tar} : thinB t = true ↔ t.singles.length ≤ 8 ∧ t.days.length ≤ 8 ∧ t.weeks.length ≤ 8 := by simp [thinB]
/-- A tariff in new memory. -/
def GivesTar (w : World) (t : Tar) (e : Ending) (w' : World) : Prop := ∃ a b c, e = .returned (.agg #[.int .i64 t.zones, a, b, c, .int .i64 t.window]) ∧ TarAt w' a b c t ∧ Below w.heap.size w w'
theorem tar_put {W : World} {B : Nat} {T : TypeId} {v0 v1 v2 v3 v4 u0 u1 u2 u3 u4 : Value} (h : W.heap[B]? = some (.cells #[v0, v1, v2, v3, v4] T (0, 0))) :
    (((((W.setCell ⟨B, 0, none⟩ u0).setCell ⟨B, 1, none⟩ u1).setCell ⟨B, 2, none⟩ u2).setCell ⟨B, 3, none⟩ u3).setCell ⟨B, 4, none⟩ u4).heap[B]? = some (.cells #[u0, u1, u2, u3, u4] T (0, 0)) ∧
    W.grownBy (((((W.setCell ⟨B, 0, none⟩ u0).setCell ⟨B, 1, none⟩ u1).setCell ⟨B, 2, none⟩ u2).setCell ⟨B, 3, none⟩ u3).setCell ⟨B, 4, none⟩ u4) (some B) :=
  ⟨blk_set (o := 4) (blk_set (o := 3) (blk_set (o := 2) (blk_set (o := 1) (blk_set (o := 0) h u0) u1) u2) u3) u4, grown_set (grown_set (grown_set (grown_set (grown_set (World.grownBy.refl W _) _ _) _ _) _ _) _ _) _ _⟩
theorem own_keptN {w w' : World} {v : Value} {n B : Nat} {xs : List Value} {base : Nat} (ho : w.ownsRow base 3 1 v n xs) (hg : w.grownBy w' (some B)) (hB : ∀ cur fr, w.heap[B]? ≠ some (.cells cur 3 fr)) : w'.ownsRow base 3 1 v n xs := by
  refine ho.kept hg ?_
  rcases ho.2 with ⟨h1, _⟩ | ⟨g, cap, cur, h1, _, h3, _⟩
  · left; rw [h1]; rfl
  · right
    rw [h1]
    intro e
    simp only [Value.ownBlock, Option.some.injEq] at e
    subst e
    exact hB _ _ h3
set_option maxRecDepth 100000 in
set_option maxHeartbeats 2000000 in
theorem Tariff_law (t : Tar) (a b c : Value) (w : World) (hT : TarAt w a b c t) (ht : thinB t = true) : Calls Try.prog 20 #[.agg #[.int .i64 t.zones, a, b, c, .int .i64 t.window]] w (GivesTar w t) := by
  obtain ⟨l1, l2, l3⟩ := thin_iff.1 ht
  have HT := Lib.hid hT
  obtain ⟨A1, c1, rfl, _⟩ := hT.singles.form
  obtain ⟨A2, c2, rfl, _⟩ := hT.days.form
  obtain ⟨A3, c3, rfl, _⟩ := hT.weeks.form
  clear hT
  generalize hn1 : t.singles.length = n1 at *
  generalize hn2 : t.days.length = n2 at *
  generalize hn3 : t.weeks.length = n3 at *
  have Hn1 := Lib.hid hn1
  have Hn2 := Lib.hid hn2
  have Hn3 := Lib.hid hn3
  clear hn1 hn2 hn3
  go_enter Try.func20, Try.ntmps20
  go_upto_region 1 with (fail)
  refine wp_name (fun W => Below w.heap.size w W ∧ w.heap.size + 1 < W.heap.size ∧ W.heap[w.heap.size]? = some (.cells #[.int .i64 t.zones, .slice A1 n1 c1, .slice A2 n2 c2, .slice A3 n3 c3, .int .i64 t.window] 24 (0, 0)) ∧ W.heap[w.heap.size + 1]? = some (.cells #[.int .i64 0, .slice none 0 0, .slice none 0 0, .slice none 0 0, .int .i64 0] 32 (0, 0))) ⟨two_below w _ _, by simp, (Below.heap_alloc _ _ _ (by simp)).trans (heap_alloc_new w _), heap_alloc2_new w _ _⟩ (fun W hW => ?_)
  obtain ⟨hb, hs, hA, hR⟩ := hW
  have hR0 : w.heap.size ≤ w.heap.size + 1 := by omega
  generalize w.heap.size + 1 = R at *
  have aq := box_cells hA
  have a0 := aq 0
  have a1 := aq 1
  have a2 := aq 2
  have a3 := aq 3
  have a4 := aq 4
  simp only [List.getElem?_toArray, List.getElem?_cons_zero, List.getElem?_cons_succ] at a0 a1 a2 a3 a4
  clear aq
  have hd : Below W.heap.size W W.drew := (Below.refl _ _).drew
  have HR := Lib.hid hR
  have Hb := Lib.hid hb
  clear hA hR hb
  refine wp_region_noPanic ?_
  refine wp_region_pick [0, 1, 2, 3, 5, 6, 8, 9, 11, 12] [4, 7, 10, 13, 14] (fun i => i != 14) (fun w' => Below W.heap.size W w') (by kernel_rfl) (by kernel_rfl) (fun _ _ _ _ _ h => h) hd (fun hne => ?_)
  have n0 := fun x : Meets (fun w' => Below W.heap.size W w') => cell_below x.property a0
  have n1 := fun x : Meets (fun w' => Below W.heap.size W w') => cell_below x.property a1
  have n2 := fun x : Meets (fun w' => Below W.heap.size W w') => cell_below x.property a2
  have n3 := fun x : Meets (fun w' => Below W.heap.size W w') => cell_below x.property a3
  have n4 := fun x : Meets (fun w' => Below W.heap.size W w') => cell_below x.property a4
  simp only [pick, pickN, List.filterMap_cons, List.filterMap_nil, List.getElem?_cons_zero, List.getElem?_cons_succ, Option.map_some]
  repeat (change wpQuiet _ _ _ _ (_ :: _) _; go_big_quiet_step (fail))
  refine wpQuiet_nil ?_
  clear n0 n1 n2 n3 n4 a0 a1 a2 a3 a4 hne
  have hbd := Hb.out.trans (hd.mono Hb.out.size)
  refine wpSeqP_step (fun K hK => ?_)
  go_simp
  refine (copy_any _ t.singles _ (HT.out.below (Hb.out.trans (hd.mono Hb.out.size))).singles (by have := Hn1.out; omega)).mono ?_
  rintro e x1 ⟨B1, d1, rfl, ho1, hx1⟩
  have hb1 : Below W.heap.size W x1 := hd.trans (hx1.mono hd.size)
  refine hK.out _ _ (fun _ => hb1) ?_
  clear hK K
  refine wpSeqP_step (fun K hK => ?_)
  go_simp
  refine (copy_any _ t.days _ (HT.out.below (Hb.out.trans (hb1.mono Hb.out.size))).days (by have := Hn2.out; omega)).mono ?_
  rintro e x2 ⟨B2, d2, rfl, ho2, hx2⟩
  have hb2 : Below W.heap.size W x2 := hb1.trans (hx2.mono hb1.size)
  have ho1 := own_below ho1 hx2
  refine hK.out _ _ (fun _ => hb2) ?_
  clear hK K
  refine wpSeqP_step (fun K hK => ?_)
  go_simp
  refine (copy_any _ t.weeks _ (HT.out.below (Hb.out.trans (hb2.mono Hb.out.size))).weeks (by have := Hn3.out; omega)).mono ?_
  rintro e x3 ⟨B3, d3, rfl, ho3, hx3⟩
  have hb3 : Below W.heap.size W x3 := hb2.trans (hx3.mono hb2.size)
  have ho1 := own_below ho1 hx3
  have ho2 := own_below ho2 hx3
  refine hK.out _ _ (fun _ => hb3) ?_
  clear hK K
  refine wpSeqP_step (fun K hK => ?_)
  go_simp
  refine hK.out _ _ (fun _ => hb3) ?_
  clear hK K
  have hR3 := (hb3.block _ (Array.getElem?_eq_some_iff.1 HR.out).1).trans HR.out
  have pq := box_cells hR3
  have p0 := pq 0
  have p1 := pq 1
  have p2 := pq 2
  have p3 := pq 3
  have p4 := pq 4
  simp only [List.getElem?_toArray, List.getElem?_cons_zero, List.getElem?_cons_succ] at p0 p1 p2 p3 p4
  clear pq
  have f0 := box_frozen hR3 0
  have f1 := box_frozen hR3 1
  have f2 := box_frozen hR3 2
  have f3 := box_frozen hR3 3
  have f4 := box_frozen hR3 4
  refine wpSeqP_step (fun K hK => ?_)
  go_simp
  refine hK.out _ _ (fun h => by cases h) ?_
  clear hK K
  refine wpSeqP_nil ?_
  refine NoPanic.normal ?_
  obtain ⟨z, zg⟩ := tar_put (u0 := .int .i64 t.zones) (u1 := .slice B1 t.singles.length d1) (u2 := .slice B2 t.days.length d2) (u3 := .slice B3 t.weeks.length d3) (u4 := .int .i64 t.window) hR3
  have zz := box_cells z
  have z0 := zz 0
  have z1 := zz 1
  have z2 := zz 2
  have z3 := zz 3
  have z4 := zz 4
  simp only [List.getElem?_toArray, List.getElem?_cons_zero, List.getElem?_cons_succ] at z0 z1 z2 z3 z4
  clear zz
  have Zg := Lib.hid zg
  have Ho1 := Lib.hid ho1
  have Ho2 := Lib.hid ho2
  have Ho3 := Lib.hid ho3
  have Hb3 := Lib.hid hb3
  have HR3 := Lib.hid hR3
  clear z zg ho1 ho2 ho3 hb1 hb2 hb3 hR3 hx1 hx2 hx3 p0 p1 p2 p3 p4 f0 f1 f2 f3 f4
  go_wp2
  refine bodyPost_ret (v := .agg #[.int .i64 t.zones, .slice B1 t.singles.length d1, .slice B2 t.days.length d2, .slice B3 t.weeks.length d3, .int .i64 t.window]) (by simp [results, Try.results20, go_sem, z0, z1, z2, z3, z4]) rfl ?_
  have hBt : ∀ cur fr, x3.heap[R]? ≠ some (.cells cur 3 fr) := fun cu fr e => by rw [HR3.out] at e; cases e
  exact ⟨_, _, _, rfl, ⟨nums_of_own (own_keptN Ho1.out Zg.out hBt), nums_of_own (own_keptN Ho2.out Zg.out hBt), nums_of_own (own_keptN Ho3.out Zg.out hBt)⟩, below_by (Hb.out.trans (Hb3.out.mono Hb.out.size)) hR0 Zg.out⟩
end Go.Proofs.Ytmbkpfkkohpnkaa
