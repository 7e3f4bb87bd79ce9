import Derived.Test.YtckgapeednokjaaGreatZr
import Derived.Test.YtckgapeednokjaaGreatZk
import Derived.Test.YtckgapeednokjaaGreatY3
import Derived.Test.YtckgapeednokjaaGreatTp
set_option linter.unusedVariables false
set_option linter.unusedSimpArgs false
namespace Go.Proofs.YtckgapeednokjaaGreat
open Go Go.Proofs Go.RowKit

/-! ### The day of blocks -/
def startR (t : Tab) (i : Nat) : Rel := ⟨(tripAt t i).fr, (tripAt t i).start, (tripAt t i).start⟩
def endR (t : Tab) (i : Nat) : Rel := ⟨(tripAt t i).to, (tripAt t i).start + (tripAt t i).least, (tripAt t i).start + (tripAt t i).most⟩
def relsOf (t : Tab) (b : List Nat) : List Rel := b.map (startR t) ++ [endR t (b.getLast?.getD 0)]
def workD (t : Tab) (law : DLaw) (c : List (List Nat)) : DDay := ⟨law, c.map (relsOf t), t.empty⟩
def GivesWorked (t : Tab) (law : DLaw) (c : List (List Nat)) (zt : Value) (w : World) (e : Ending) (w' : World) : Prop := ∃ (A B : Option Addr) (a b : Nat), e = .returned (.tuple #[.agg #[.int .i64 law.piece, .int .i64 law.drive, .int .i64 law.spread, .int .i64 law.brk, .int .i64 law.on, .int .i64 law.off, .int .i64 law.least, .int .i64 law.pieces, .slice A c.length a, zt], .slice B c.flatten.length b]) ∧
  DayAt w' (.slice A c.length a) zt (workD t law c) ∧ NumsAt .i64 w' (.slice B c.flatten.length b) (natsI c.flatten) ∧ Below w.heap.size w w'
/-- A day in the making. -/
structure WorkMid (w wr : World) (t : Tab) (law : DLaw) (R0 g S : Nat) (u z : Value) (c : List (List Nat)) (i : Nat) (A : Option Addr) (cA : Nat) (us : List Value) (L : List Nat) (n : Nat) (B : Option Addr) (cB : Nat) : Prop where
  bel : Below w.heap.size w wr
  box : wr.heap[w.heap.size]? = some (.cells #[.int .i64 t.places, .int .i64 t.lay, u, z] 48 (0, 0))
  ret : wr.heap[R0]? = some (.cells #[.int .i64 0, .int .i64 0, .int .i64 0, .int .i64 0, .int .i64 0, .int .i64 0, .int .i64 0, .int .i64 0, .slice none 0 0, .slice none 0 0] 63 (0, 0))
  out : wr.heap[g]? = some (.cells #[.int .i64 law.piece, .int .i64 law.drive, .int .i64 law.spread, .int .i64 law.brk, .int .i64 law.on, .int .i64 law.off, .int .i64 law.least, .int .i64 law.pieces, .slice A i cA, u] 63 (0, 0))
  rels : wr.ownsRow w.heap.size 131 1 (.slice A i cA) i us
  own : RelsOwnR wr w.heap.size us ((c.take i).map (relsOf t))
  low : ∀ x ∈ us, ∀ k, x.ownBlock = some k → k < S
  ln : L.length = n
  tri : wr.ownsRow w.heap.size 3 1 (.slice B n cB) n ((natsI L).map (.int .i64))
section
variable {w wr wa w1 : World} {t : Tab} {law : DLaw} {R0 g S : Nat} {u z : Value} {c : List (List Nat)} {i : Nat} {A : Option Addr} {cA : Nat} {us : List Value} {L : List Nat} {n : Nat} {B : Option Addr} {cB : Nat}
theorem WorkMid.below (h : WorkMid w wr t law R0 g S u z c i A cA us L n B cB) (hb : Below wr.heap.size wr wa) : WorkMid w wa t law R0 g S u z c i A cA us L n B cB :=
  ⟨h.bel.trans (hb.mono h.bel.size), (hb.block _ (Array.getElem?_eq_some_iff.1 h.box).1).trans h.box, (hb.block _ (Array.getElem?_eq_some_iff.1 h.ret).1).trans h.ret, (hb.block _ (Array.getElem?_eq_some_iff.1 h.out).1).trans h.out, own_below h.rels hb, h.own.below hb, h.low, h.ln, own_below h.tri hb⟩
theorem WorkMid.mono (h : WorkMid w wr t law R0 g S u z c i A cA us L n B cB) {S' : Nat} (hS : S ≤ S') : WorkMid w wr t law R0 g S' u z c i A cA us L n B cB :=
  ⟨h.bel, h.box, h.ret, h.out, h.rels, h.own, fun x hx k hk => Nat.lt_of_lt_of_le (h.low x hx k hk) hS, h.ln, h.tri⟩
/-- A row of new memory grows. -/
theorem WorkMid.growR (h : WorkMid w wr t law R0 g S u z c i A cA us L n B cB) {v : Value} {q : Nat} {xs : List Value} (hv : wr.ownsRow S 134 3 v q xs) (hS : w.heap.size ≤ S) (hg : wr.grownBy w1 v.ownBlock) : WorkMid w w1 t law R0 g S u z c i A cA us L n B cB := by
  have hk : ∀ (P : Nat) (xs : Array Value) (e : TypeId), wr.heap[P]? = some (.cells xs e (0, 0)) → 134 ≠ e → w1.heap[P]? = some (.cells xs e (0, 0)) := fun P xs e hP hne =>
    (hg.block P (Array.getElem?_eq_some_iff.1 hP).1 (own_not hv hP hne)).trans hP
  refine ⟨h.bel.grown hg h.bel.size fun q hq => Nat.le_trans hS (hv.lt q hq).1, hk _ _ _ h.box (by decide), hk _ _ _ h.ret (by decide), hk _ _ _ h.out (by decide), h.rels.kept hg (own_apart h.rels hv (by decide)), ⟨h.own.1, fun j l hl => ?_⟩, h.low, h.ln, h.tri.kept hg (own_apart h.tri hv (by decide))⟩
  obtain ⟨x, h1, h2⟩ := h.own.2 j l hl
  refine ⟨x, h1, h2.kept hg ?_⟩
  cases hx : x.ownBlock with
  | none => left; rfl
  | some k =>
    right
    intro e
    have h3 := h.low x (List.mem_of_getElem? h1) k hx
    have h4 := (hv.lt k e.symm).1
    omega
/-- One trip more. -/
theorem WorkMid.growT (h : WorkMid w wr t law R0 g S u z c i A cA us L n B cB) {B' : Option Addr} {cB' x : Nat} (hg : wr.grownBy w1 (Value.slice B n cB).ownBlock) (ho : w1.ownsRow w.heap.size 3 1 (.slice B' (n + 1) cB') (n + 1) ((natsI L).map (.int .i64) ++ [.int .i64 (x : Int)])) :
    WorkMid w w1 t law R0 g S u z c i A cA us (L ++ [x]) (n + 1) B' cB' := by
  have hk : ∀ (P : Nat) (xs : Array Value) (e : TypeId), wr.heap[P]? = some (.cells xs e (0, 0)) → 3 ≠ e → w1.heap[P]? = some (.cells xs e (0, 0)) := fun P xs e hP hne =>
    (hg.block P (Array.getElem?_eq_some_iff.1 hP).1 (own_not h.tri hP hne)).trans hP
  refine ⟨h.bel.grown hg h.bel.size fun q hq => (h.tri.lt q hq).1, hk _ _ _ h.box (by decide), hk _ _ _ h.ret (by decide), hk _ _ _ h.out (by decide), h.rels.kept hg (own_apart h.rels h.tri (by decide)), h.own.kept h.tri (by decide) hg, h.low, by rw [List.length_append, h.ln]; rfl, ?_⟩
  have e2 : (natsI (L ++ [x])).map (Value.int .i64) = (natsI L).map (.int .i64) ++ [.int .i64 (x : Int)] := by simp [natsI]
  rw [e2]
  exact ho
/-- One block more: it is appended, and the row is stored. -/
theorem WorkMid.next (h : WorkMid w wr t law R0 g S u z c i A cA us L n B cB) (hg0 : w.heap.size < R0 ∧ R0 < g) {b : List Nat} {AA : Option Addr} {cc : Nat} {x : Value} {ty : TypeId} (hb : c[i]? = some b)
    (hx : wr.ownsRow w.heap.size 134 3 x (relsOf t b).length (relCells (relsOf t b))) (ho : w1.ownsRow w.heap.size 131 1 (.slice AA (i + 1) cc) (i + 1) (us ++ [x])) (hg : (wr.alloc (.cells #[x] ty)).grownBy w1 (Value.slice A i cA).ownBlock) :
    WorkMid w (w1.setCell ⟨g, 8, none⟩ (.slice AA (i + 1) cc)) t law R0 g (w1.setCell ⟨g, 8, none⟩ (.slice AA (i + 1) cc)).heap.size u z c (i + 1) AA cc (us ++ [x]) L n B cB := by
  have ha : Below wr.heap.size wr (wr.alloc (.cells #[x] ty)) := (Below.refl _ _).alloc (Nat.le_refl _) _
  have h1 := h.below ha
  have hP := own_grow h.rels h.out (by decide) hg
  have hR : RelsOwnR (w1.setCell ⟨g, 8, none⟩ (.slice AA (i + 1) cc)) w.heap.size (us ++ [x]) ((c.take (i + 1)).map (relsOf t)) := by
    rw [List.take_add_one, hb, Option.toList_some, List.map_append, List.map_singleton]
    exact ((h1.own.kept h1.rels (by decide) hg).snoc ((hx.alloc _).kept hg (own_apart (hx.alloc _) h1.rels (by decide)))).set hP (by decide) _
  refine ⟨?_, ?_, ?_, ?_, ?_, hR, fun y hy k hk => ?_, h.ln, ?_⟩
  · exact (h1.bel.grown hg h1.bel.size fun q hq => (h1.rels.lt q hq).1).setCell (p := ⟨g, 8, none⟩) (by simp; omega) _
  · exact blk_other (own_grow h.rels h.box (by decide) hg) (by omega) _
  · exact blk_other (own_grow h.rels h.ret (by decide) hg) (by omega) _
  · have := blk_set hP (o := 8) (.slice AA (i + 1) cc)
    simpa only [List.setIfInBounds_toArray, List.set_cons_succ, List.set_cons_zero] using this
  · exact own_set ho (own_not ho hP (by decide)) _
  · obtain ⟨j, hj, rfl⟩ := List.getElem_of_mem hy
    have hjl : j < ((c.take (i + 1)).map (relsOf t)).length := by rw [← hR.1]; exact hj
    obtain ⟨u2, e1, e2⟩ := hR.2 j _ (List.getElem?_eq_getElem hjl)
    rw [List.getElem?_eq_getElem hj] at e1
    cases e1
    exact (e2.lt k hk).2
  · have h2 := h1.tri.kept hg (own_apart h1.tri h1.rels (by decide))
    exact own_set h2 (own_not h2 hP (by decide)) _
end
theorem natsI_idx {l : List Nat} {k x : Nat} (h : l[k]? = some x) : (natsI l)[k]? = some (x : Int) := by simp [natsI, h]
set_option maxRecDepth 100000 in
set_option maxHeartbeats 6400000 in
theorem Worked_any (t : Tab) (law : DLaw) (u z v : Value) (c : List (List Nat)) (w : World) (hT : TabAt w u z t) (ht : TabOk t) (hv : RowsAt w v (c.map natsI)) (hc : IsCut t.trips.length (May t) c) :
    Calls Tryz.prog 19 #[.agg #[.int .i64 t.places, .int .i64 t.lay, u, z], v, .agg #[.int .i64 law.piece, .int .i64 law.drive, .int .i64 law.spread, .int .i64 law.brk, .int .i64 law.on, .int .i64 law.off, .int .i64 law.least, .int .i64 law.pieces]] w (GivesWorked t law c u w) := by
  obtain ⟨i0, hi0, hz0, hz1, hz2⟩ := info_parts infoI
  obtain ⟨i1, hi1, hy0, hy1, hy2⟩ := info_parts infoBlR
  obtain ⟨i2, hi2, hx0, hx1, hx2⟩ := info_parts infoRelR
  obtain ⟨A1, c1, rfl, _, _⟩ := hT.rows.form
  obtain ⟨A2, c2, rfl, _, _⟩ := hT.trips.form
  obtain ⟨A3, c3, rfl, _, _⟩ := hv.form
  have HT := Lib.hid hT
  have Ht := Lib.hid ht
  have h12 := ht.trips
  obtain ⟨N, hN⟩ : ∃ N, t.trips.length = N := ⟨_, rfl⟩
  have HN := Lib.hid hN
  rw [hN] at hc h12
  obtain ⟨C, hC⟩ : ∃ C, c.length = C := ⟨_, rfl⟩
  have HC := Lib.hid hC
  have hmC : (c.map natsI).length = C := by rw [List.length_map, hC]
  have Hv := Lib.hid hv
  rw [hmC] at Hv ⊢
  have Hc := Lib.hid hc
  have hC12 : C ≤ 12 := by
    have h1 := blocks_len hc.ne
    rw [hc.all, hC] at h1
    omega
  rw [hN]
  clear hT ht hN hc hC hmC hv
  go_enter Tryz.func19, Tryz.ntmps19
  go_upto_region 4 with (fail)
  refine wp_name (fun V => Below w.heap.size w V ∧ V.heap[w.heap.size]? = some (.cells #[.int .i64 t.places, .int .i64 t.lay, .slice A1 t.empty.length c1, .slice A2 N c2] 48 (0, 0)) ∧ V.heap[w.heap.size + 1 + 1]? = some (.cells #[.int .i64 0, .int .i64 0, .int .i64 0, .int .i64 0, .int .i64 0, .int .i64 0, .int .i64 0, .int .i64 0, .slice none 0 0, .slice none 0 0] 63 (0, 0)) ∧ V.heap[w.heap.size + 1 + 1 + 1]? = some (.cells #[.int .i64 law.piece, .int .i64 law.drive, .int .i64 law.spread, .int .i64 law.brk, .int .i64 law.on, .int .i64 law.off, .int .i64 law.least, .int .i64 law.pieces, .slice none 0 0, .slice A1 t.empty.length c1] 63 (0, 0))) ?_ (fun W1 hW => ?_)
  · refine ⟨((((Below.refl _ _).alloc (Nat.le_refl _) _).alloc (by simp) _).alloc (by simp; omega) _).alloc (by simp; omega) _, ?_, ?_, ?_⟩
    all_goals (simp only [World.heap_alloc_at, World.size_alloc]; repeat (first | rw [if_neg (by omega)] | rw [if_pos (by omega)]))
    all_goals rfl
  obtain ⟨hbW, g0, g1, g2⟩ := hW
  obtain ⟨R0, hR0⟩ : ∃ R0, w.heap.size + 1 + 1 = R0 := ⟨_, rfl⟩
  rw [hR0] at g1 g2 ⊢
  obtain ⟨g, hg⟩ : ∃ g, R0 + 1 = g := ⟨_, rfl⟩
  rw [hg] at g2 ⊢
  have hRg : w.heap.size < R0 ∧ R0 < g := ⟨by omega, by omega⟩
  have hst : WorkMid w W1 t law R0 g W1.heap.size (.slice A1 t.empty.length c1) (.slice A2 N c2) c 0 none 0 [] [] 0 none 0 :=
    ⟨hbW, g0, g1, g2, World.ownsRow_nil _ _ _ _, ⟨rfl, fun j l h => (by simp at h)⟩, fun x hx => (by simp at hx), rfl, World.ownsRow_nil _ _ _ _⟩
  have Hst := Lib.hid hst
  clear hbW g0 g1 g2 hst hR0 hg
  go_wp2
  go_loopw [9, 10] (fun x i wr => ∃ (k : Nat) (A : Option Addr) (cA : Nat) (us : List Value) (n : Nat) (B : Option Addr) (cB S : Nat), k ≤ C ∧ i = .int .i64 k ∧ x = .slice B n cB ∧ S ≤ wr.heap.size ∧ WorkMid w wr t law R0 g S (.slice A1 t.empty.length c1) (.slice A2 N c2) c k A cA us (c.take k).flatten n B cB) (fun x i wr => C - (intOf i).toNat)
  case atStart => exact ⟨0, none, 0, [], 0, none, 0, _, by omega, rfl, rfl, Nat.le_refl _, Hst.out⟩
  case round =>
    obtain ⟨k, A, cA, us, n, B, cB, S, hk, rfl, rfl, hS, hM⟩ := hrel
    obtain ⟨wo, rfl⟩ : ∃ wo : World, wo = wr := ⟨_, rfl⟩
    have HM := Lib.hid (hM.mono hS)
    have hsz := hM.bel.size
    clear hM hS
    by_cases hlt : k < C
    · obtain ⟨b, hb⟩ : ∃ b, c[k]? = some b := ⟨_, List.getElem?_eq_getElem (by rw [HC.out]; exact hlt)⟩
      have Hb := Lib.hid hb
      obtain ⟨M, hMb⟩ : ∃ M, b.length = M := ⟨_, rfl⟩
      have HMb := Lib.hid hMb
      have hMN : n + M ≤ N := by
        have h1 : c.flatten = (c.take (k + 1)).flatten ++ (c.drop (k + 1)).flatten := by rw [← List.flatten_append, List.take_append_drop]
        have h2 := congrArg List.length h1
        rw [Hc.out.all, take_flat hb, List.length_append, List.length_append, hMb, HM.out.ln] at h2
        omega
      have hM0 : 0 < M := by rw [← hMb]; exact List.length_pos_iff.2 (Hc.out.ne b (List.mem_of_getElem? hb))
      -- the row of the block, in any world
      have HRow := Lib.hid (fun (V : World) (h : Below w.heap.size w V) => (show ∃ b1 o1 A4 c4, A3 = some ⟨b1, o1, none⟩ ∧ V.cell? ⟨b1, o1 + k, none⟩ = some (.slice A4 M c4) ∧ NumsAt .i64 V (.slice A4 M c4) (natsI b) from by
        obtain ⟨b1, o1, l, uu, eA, hl, hu, hn, _⟩ := (Hv.out.below h).at_ (k := k) (by rw [List.length_map, HC.out]; exact hlt)
        obtain ⟨A4, c4, rfl, _, _⟩ := hn.form
        have hle : l = natsI b := by rw [List.getElem?_map, Hb.out] at hl; simpa using hl.symm
        subst hle
        rw [natsI_len, HMb.out] at hu hn
        exact ⟨b1, o1, A4, c4, eA, hu, hn⟩))
      obtain ⟨b1, o1, A4, c4, eA, _, _⟩ := HRow.out w (Below.refl _ _)
      subst eA
      replace HRow := Lib.hid (fun (V : World) (h : Below w.heap.size w V) => (show ∃ A4 c4, V.cell? ⟨b1, o1 + k, none⟩ = some (.slice A4 M c4) ∧ NumsAt .i64 V (.slice A4 M c4) (natsI b) from by
        obtain ⟨b2, o2, A5, c5, e, h1, h2⟩ := HRow.out V h
        cases e
        exact ⟨A5, c5, h1, h2⟩))
      clear hb hMb
      have hu0 := HRow.out wo HM.out.bel
      obtain ⟨A4, c4, hu0, _⟩ := hu0
      go_wp2
      clear hu0
      go_loopw [9, 11, 12] (fun x y j wr => ∃ (m : Nat) (A' : Option Addr) (c' : Nat) (B : Option Addr) (cB : Nat), m ≤ M ∧ j = .int .i64 m ∧ y = .slice A' m c' ∧ x = .slice B (n + m) cB ∧ wr.ownsRow wo.heap.size 134 3 (.slice A' m c') m (relCells ((b.take m).map (startR t))) ∧ wo.heap.size ≤ wr.heap.size ∧ WorkMid w wr t law R0 g wo.heap.size (.slice A1 t.empty.length c1) (.slice A2 N c2) c k A cA us ((c.take k).flatten ++ b.take m) (n + m) B cB) (fun x y j wr => M - (intOf j).toNat)
      case atStart => exact ⟨0, none, 0, B, cB, by omega, rfl, rfl, rfl, World.ownsRow_nil _ _ _ _, Nat.le_refl _, by rw [List.take_zero, List.append_nil]; exact HM.out⟩
      case round =>
        obtain ⟨m, A', c', B', cB', hm, rfl, rfl, rfl, hrow, hso, hM2⟩ := hrel
        obtain ⟨wq, rfl⟩ : ∃ wq : World, wq = wr := ⟨_, rfl⟩
        have Hrow := Lib.hid hrow
        have HM2 := Lib.hid hM2
        have gc := box_cells hM2.box
        obtain ⟨A4, c4, hu1, hn1⟩ := HRow.out wq hM2.bel
        have Hn1 := Lib.hid hn1
        clear hrow hM2 hn1
        by_cases hmM : m < M
        · obtain ⟨b3, o3, yv, eA, hy, cy, _⟩ := Hn1.out.at_ (k := m) (by rw [natsI_len, HMb.out]; exact hmM)
          subst eA
          obtain ⟨xi, rfl, hx⟩ := natsI_get hy
          have hxN : xi < N := Hc.out.lt xi (List.mem_flatten.2 ⟨b, List.mem_of_getElem? Hb.out, List.mem_of_getElem? hx⟩)
          obtain ⟨b4, o4, x, eA, hxt, x0, x1, x2, x3, x4, x5, _⟩ := (HT.out.trips.below HM2.out.bel).at_ (k := xi) (by rw [HN.out]; exact hxN)
          subst eA
          have hxe : tripAt t xi = x := by unfold tripAt; rw [hxt]; rfl
          have Hxe := Lib.hid hxe
          have Hx := Lib.hid hx
          clear hy hx hxt hxe
          go_upto_region 10 with (fail)
          refine wp_region_noPanic ?_
          refine wp_region_pick [0, 1, 2, 3, 4, 5, 6, 7, 8, 9, 10] [11, 12] (fun _ => true) (fun w' => Below wq.heap.size wq w') (by kernel_rfl) (by kernel_rfl) (fun _ _ _ _ _ h => h) (Below.refl _ _).drew (fun hne => ?_)
          have n0 := fun q : Meets (fun w' => Below wq.heap.size wq w') => cell_below q.property (gc 3)
          have n1 := fun q : Meets (fun w' => Below wq.heap.size wq w') => cell_below q.property (hu1)
          have n2 := fun q : Meets (fun w' => Below wq.heap.size wq w') => cell_below q.property (cy)
          have n3 := fun q : Meets (fun w' => Below wq.heap.size wq w') => cell_below q.property (x0)
          have n4 := fun q : Meets (fun w' => Below wq.heap.size wq w') => cell_below q.property (x1)
          have n5 := fun q : Meets (fun w' => Below wq.heap.size wq w') => cell_below q.property (x2)
          have n6 := fun q : Meets (fun w' => Below wq.heap.size wq w') => cell_below q.property (x3)
          have n7 := fun q : Meets (fun w' => Below wq.heap.size wq w') => cell_below q.property (x4)
          have n8 := fun q : Meets (fun w' => Below wq.heap.size wq w') => cell_below q.property (x5)
          simp only [pick, pickN, List.filterMap_cons, List.filterMap_nil, List.getElem?_cons_zero, List.getElem?_cons_succ, Option.map_some]
          repeat (change wpQuiet _ _ _ _ (_ :: _) _; go_big_quiet_step (fail))
          refine wpQuiet_nil ?_
          clear n0 n1 n2 n3 n4 n5 n6 n7 n8 hne
          have B0 : Below wq.heap.size wq (wq.drew.alloc (.cells #[.int .i64 0, .int .i64 0, .int .i64 0, .int .i64 0, .int .i64 0, .int .i64 0] 78)) := (((Below.refl wq.heap.size wq).drew).alloc (Nat.le_refl _) (.cells #[.int .i64 0, .int .i64 0, .int .i64 0, .int .i64 0, .int .i64 0, .int .i64 0] 78))
          have hX := heap_alloc_new wq.drew (.cells #[.int .i64 0, .int .i64 0, .int .i64 0, .int .i64 0, .int .i64 0, .int .i64 0] 78)
          have lX : wq.heap.size ≤ wq.drew.heap.size := Nat.le_refl _
          refine wpSeqP_step (fun K hK => ?_)
          go_simp
          refine hK.out _ (wq.drew.alloc (.cells #[.int .i64 0, .int .i64 0, .int .i64 0, .int .i64 0, .int .i64 0, .int .i64 0] 78)) (fun _ => B0) ?_
          clear hK K
          obtain ⟨X, hXe⟩ : ∃ X, wq.drew.heap.size = X := ⟨_, rfl⟩
          have hXe2 : wq.heap.size = X := hXe
          rw [hXe] at hX lX
          have HXe := Lib.hid hXe2
          rw [hXe2]
          have lX2 : wq.heap.size ≤ X := Nat.le_of_eq hXe2
          clear hXe hXe2
          obtain ⟨V0, hV0⟩ : ∃ V, V = wq.drew.alloc (.cells #[.int .i64 0, .int .i64 0, .int .i64 0, .int .i64 0, .int .i64 0, .int .i64 0] 78) := ⟨_, rfl⟩
          rw [← hV0] at hX B0 ⊢
          clear hV0
          have gf := box_frozen hX
          have gq := box_cells hX
          refine wpSeqP_step (fun K hK => ?_)
          go_simp
          have B1 := ((((((B0.setCell (p := ⟨X, 0, none⟩) lX2 (.int .i64 x.fr)).setCell (p := ⟨X, 1, none⟩) lX2 (.int .i64 x.to)).setCell (p := ⟨X, 2, none⟩) lX2 (.int .i64 x.start)).setCell (p := ⟨X, 3, none⟩) lX2 (.int .i64 x.least)).setCell (p := ⟨X, 4, none⟩) lX2 (.int .i64 x.most)).setCell (p := ⟨X, 5, none⟩) lX2 (.int .i64 x.kind))
          replace hX := (blk_set (blk_set (blk_set (blk_set (blk_set (blk_set hX (o := 0) (.int .i64 x.fr)) (o := 1) (.int .i64 x.to)) (o := 2) (.int .i64 x.start)) (o := 3) (.int .i64 x.least)) (o := 4) (.int .i64 x.most)) (o := 5) (.int .i64 x.kind))
          simp only [List.setIfInBounds_toArray, List.set_cons_succ, List.set_cons_zero] at hX
          refine hK.out _ _ (fun _ => by have h := B1; rw [HXe.out] at h; exact h) ?_
          clear hK K gf gq B0
          obtain ⟨v1, hv1⟩ : ∃ V, V = ((((((V0.setCell ⟨X, 0, none⟩ (.int .i64 x.fr)).setCell ⟨X, 1, none⟩ (.int .i64 x.to)).setCell ⟨X, 2, none⟩ (.int .i64 x.start)).setCell ⟨X, 3, none⟩ (.int .i64 x.least)).setCell ⟨X, 4, none⟩ (.int .i64 x.most)).setCell ⟨X, 5, none⟩ (.int .i64 x.kind)) := ⟨_, rfl⟩
          rw [← hv1] at hX B1 ⊢
          clear hv1
          refine wpSeqP_nil ?_
          refine NoPanic.normal ?_
          have gx := box_cells hX
          have Hrow1 := Lib.hid (own_below Hrow.out B1)
          have HM3 := Lib.hid (HM2.out.below B1)
          have hv1 := B1.size
          have hs3 := HM3.out.bel.size
          clear gc hu1 cy x0 x1 x2 x3 x4 x5
          go_upto_region 12 with (at_builtin; refine wpList_append_src _ rfl (.tmp 45) (.tmp 54) 131 rfl wo.heap.size 134 i2 _ 3 24 Tryz.underlying131 hi2 hx0 hx1 hx2 rfl (by omega) _ m _ rfl (Hrow1.out.alloc _) (some ⟨v1.heap.size, 0, none⟩) 1 1 (relC ⟨x.fr, x.start, x.start⟩) rfl (src_new v1 (relC ⟨x.fr, x.start, x.start⟩) 134 1 3 rfl) (by simp [relC, Value.oneCell']) (by simp [maxLen]; omega) (by omega) (by simp; omega) ?_; intro v2 w2 hown2 hg2 hat2; have Hg2 := Lib.hid hg2; obtain ⟨AA2, cc2, rfl⟩ := own_form hown2; have Hown2 := Lib.hid hown2; clear hown2 hg2 hat2)
          have ha1 : Below v1.heap.size v1 (v1.alloc (.cells (relC ⟨x.fr, x.start, x.start⟩).toArray 134)) := (Below.refl _ _).alloc (Nat.le_refl _) _
          have HM4 := Lib.hid ((HM3.out.below ha1).growR (Hrow1.out.alloc _) HM.out.bel.size Hg2.out)
          have hw24 := Hg2.out.size
          obtain ⟨A6, c6, hu6, hn6⟩ := HRow.out w2 HM4.out.bel
          obtain ⟨b6, o6, y6, eA6, hy6, cy6, _⟩ := hn6.at_ (k := m) (by rw [natsI_len, HMb.out]; exact hmM)
          subst eA6
          rw [natsI_idx Hx.out] at hy6
          obtain rfl := (Option.some.inj hy6).symm
          have hs4 := HM4.out.bel.size
          clear hn6 hy6 gx
          go_wp2_with (at_builtin; refine wpList_append_src _ rfl (.tmp 56) (.tmp 64) 29 rfl w.heap.size 3 i0 _ 1 8 Tryz.underlying29 hi0 hz0 hz1 hz2 rfl (by omega) _ (n + m) _ rfl (HM4.out.tri.alloc _) (some ⟨w2.heap.size, 0, none⟩) 1 1 [.int .i64 (xi : Int)] rfl (src_new w2 [.int .i64 (xi : Int)] 3 1 1 rfl) (by simp [Value.oneCell']) (by simp [maxLen]; omega) (by omega) (by simp; omega) ?_; intro v3 w3 hown3 hg3 hat3; have Hg3 := Lib.hid hg3; obtain ⟨AA3, cc3, rfl⟩ := own_form hown3; have Hown3 := Lib.hid hown3; clear hown3 hg3 hat3)
          go_roundw
          case rel =>
            have ha2 : Below w2.heap.size w2 (w2.alloc (.cells #[.int .i64 (xi : Int)] 3)) := (Below.refl _ _).alloc (Nat.le_refl _) _
            have hM5 := (HM4.out.below ha2).growT Hg3.out Hown3.out
            have hown2' : w2.ownsRow wo.heap.size 134 3 (.slice AA2 (m + 1) cc2) (m + 1) (relCells ((b.take (m + 1)).map (startR t))) := by
              rw [List.take_add_one, Hx.out, Option.toList_some, List.map_append, List.map_singleton, relCells_snoc]
              have e : startR t xi = ⟨x.fr, x.start, x.start⟩ := by unfold startR; rw [Hxe.out]
              rw [e]
              exact Hown2.out
            have h5 := (hown2'.alloc (.cells #[.int .i64 (xi : Int)] 3)).kept Hg3.out (own_apart hown2' HM4.out.tri (by decide))
            have h6 := Hg3.out.size
            simp at h6 hw24
            refine ⟨m + 1, AA2, cc2, AA3, cc3, by omega, by go_num, rfl, rfl, h5, by omega, ?_⟩
            rw [List.take_add_one, Hx.out, Option.toList_some, ← List.append_assoc]
            exact hM5
          case measure => simp [intOf]; omega
        · obtain rfl : m = M := by omega
          obtain ⟨j, hj⟩ : ∃ j, m = j + 1 := ⟨m - 1, by omega⟩
          obtain ⟨b3, o3, yv, eA, hy, cy, _⟩ := Hn1.out.at_ (k := j) (by rw [natsI_len, HMb.out]; omega)
          subst eA
          obtain ⟨xi, rfl, hx⟩ := natsI_get hy
          have hxN : xi < N := Hc.out.lt xi (List.mem_flatten.2 ⟨b, List.mem_of_getElem? Hb.out, List.mem_of_getElem? hx⟩)
          obtain ⟨b4, o4, x, eA, hxt, x0, x1, x2, x3, x4, x5, _⟩ := (HT.out.trips.below HM2.out.bel).at_ (k := xi) (by rw [HN.out]; exact hxN)
          subst eA
          have hxe : tripAt t xi = x := by unfold tripAt; rw [hxt]; rfl
          have hok := Ht.out.trip x (List.mem_of_getElem? hxt)
          have hls : b.getLast?.getD 0 = xi := by
            rw [List.getLast?_eq_getElem?, HMb.out, hj, Nat.add_sub_cancel, hx]
            rfl
          have hre : relsOf t b = (b.map (startR t)) ++ [⟨x.to, x.start + x.least, x.start + x.most⟩] := by unfold relsOf endR; rw [hls, hxe]
          have Hre := Lib.hid hre
          have q1 : IntKind.i64.wrap ((m : Int) - 1) = (j : Int) := by rw [IntWalk.i64_in _ (by omega)]; omega
          have q2 : (m : Int) - 1 = (j : Int) := by omega
          have q3 : (j : Int) < (m : Int) := by omega
          have hst := hok.start
          have hle := hok.least
          have hmo := hok.most
          have hfull : b.take m = b := List.take_of_length_le (by rw [HMb.out]; exact Nat.le_refl _)
          have hrow2 := Hrow.out
          rw [hfull] at hrow2
          have hM22 := HM2.out
          rw [hfull, ← take_flat Hb.out] at hM22
          have Hrow2 := Lib.hid hrow2
          have HM22 := Lib.hid hM22
          clear hy hx hxt hxe hok hls hre hfull hrow2 hM22 hj
          go_upto_region 13 with (fail)
          refine wp_region_noPanic ?_
          refine wp_region_pick [0, 1, 2, 3, 4, 5, 6, 7, 8, 9, 10, 11, 12, 13, 14, 15] [16, 17] (fun _ => true) (fun w' => Below wq.heap.size wq w') (by kernel_rfl) (by kernel_rfl) (fun _ _ _ _ _ h => h) (Below.refl _ _).drew (fun hne => ?_)
          have n0 := fun q : Meets (fun w' => Below wq.heap.size wq w') => cell_below q.property (gc 3)
          have n1 := fun q : Meets (fun w' => Below wq.heap.size wq w') => cell_below q.property (hu1)
          have n2 := fun q : Meets (fun w' => Below wq.heap.size wq w') => cell_below q.property (cy)
          have n3 := fun q : Meets (fun w' => Below wq.heap.size wq w') => cell_below q.property (x0)
          have n4 := fun q : Meets (fun w' => Below wq.heap.size wq w') => cell_below q.property (x1)
          have n5 := fun q : Meets (fun w' => Below wq.heap.size wq w') => cell_below q.property (x2)
          have n6 := fun q : Meets (fun w' => Below wq.heap.size wq w') => cell_below q.property (x3)
          have n7 := fun q : Meets (fun w' => Below wq.heap.size wq w') => cell_below q.property (x4)
          have n8 := fun q : Meets (fun w' => Below wq.heap.size wq w') => cell_below q.property (x5)
          simp only [pick, pickN, List.filterMap_cons, List.filterMap_nil, List.getElem?_cons_zero, List.getElem?_cons_succ, Option.map_some]
          repeat (change wpQuiet _ _ _ _ (_ :: _) _; go_big_quiet_step (fail))
          refine wpQuiet_nil ?_
          clear n0 n1 n2 n3 n4 n5 n6 n7 n8 hne
          have B0 : Below wq.heap.size wq (wq.drew.alloc (.cells #[.int .i64 0, .int .i64 0, .int .i64 0, .int .i64 0, .int .i64 0, .int .i64 0] 78)) := (((Below.refl wq.heap.size wq).drew).alloc (Nat.le_refl _) (.cells #[.int .i64 0, .int .i64 0, .int .i64 0, .int .i64 0, .int .i64 0, .int .i64 0] 78))
          have hX := heap_alloc_new wq.drew (.cells #[.int .i64 0, .int .i64 0, .int .i64 0, .int .i64 0, .int .i64 0, .int .i64 0] 78)
          have lX : wq.heap.size ≤ wq.drew.heap.size := Nat.le_refl _
          refine wpSeqP_step (fun K hK => ?_)
          go_simp
          refine hK.out _ (wq.drew.alloc (.cells #[.int .i64 0, .int .i64 0, .int .i64 0, .int .i64 0, .int .i64 0, .int .i64 0] 78)) (fun _ => B0) ?_
          clear hK K
          obtain ⟨X, hXe⟩ : ∃ X, wq.drew.heap.size = X := ⟨_, rfl⟩
          have hXe2 : wq.heap.size = X := hXe
          rw [hXe] at hX lX
          have HXe := Lib.hid hXe2
          rw [hXe2]
          have lX2 : wq.heap.size ≤ X := Nat.le_of_eq hXe2
          clear hXe hXe2
          obtain ⟨V0, hV0⟩ : ∃ V, V = wq.drew.alloc (.cells #[.int .i64 0, .int .i64 0, .int .i64 0, .int .i64 0, .int .i64 0, .int .i64 0] 78) := ⟨_, rfl⟩
          rw [← hV0] at hX B0 ⊢
          clear hV0
          have gf := box_frozen hX
          have gq := box_cells hX
          refine wpSeqP_step (fun K hK => ?_)
          go_simp
          have B1 := ((((((B0.setCell (p := ⟨X, 0, none⟩) lX2 (.int .i64 x.fr)).setCell (p := ⟨X, 1, none⟩) lX2 (.int .i64 x.to)).setCell (p := ⟨X, 2, none⟩) lX2 (.int .i64 x.start)).setCell (p := ⟨X, 3, none⟩) lX2 (.int .i64 x.least)).setCell (p := ⟨X, 4, none⟩) lX2 (.int .i64 x.most)).setCell (p := ⟨X, 5, none⟩) lX2 (.int .i64 x.kind))
          replace hX := (blk_set (blk_set (blk_set (blk_set (blk_set (blk_set hX (o := 0) (.int .i64 x.fr)) (o := 1) (.int .i64 x.to)) (o := 2) (.int .i64 x.start)) (o := 3) (.int .i64 x.least)) (o := 4) (.int .i64 x.most)) (o := 5) (.int .i64 x.kind))
          simp only [List.setIfInBounds_toArray, List.set_cons_succ, List.set_cons_zero] at hX
          refine hK.out _ _ (fun _ => by have h := B1; rw [HXe.out] at h; exact h) ?_
          clear hK K gf gq B0
          obtain ⟨v1, hv1⟩ : ∃ V, V = ((((((V0.setCell ⟨X, 0, none⟩ (.int .i64 x.fr)).setCell ⟨X, 1, none⟩ (.int .i64 x.to)).setCell ⟨X, 2, none⟩ (.int .i64 x.start)).setCell ⟨X, 3, none⟩ (.int .i64 x.least)).setCell ⟨X, 4, none⟩ (.int .i64 x.most)).setCell ⟨X, 5, none⟩ (.int .i64 x.kind)) := ⟨_, rfl⟩
          rw [← hv1] at hX B1 ⊢
          clear hv1
          refine wpSeqP_nil ?_
          refine NoPanic.normal ?_
          have gx := box_cells hX
          have Hrow1 := Lib.hid (own_below Hrow2.out B1)
          have HM3 := Lib.hid (HM22.out.below B1)
          have hv1 := B1.size
          clear gc hu1 cy x0 x1 x2 x3 x4 x5
          go_upto_region 15 with (at_builtin; refine wpList_append_src _ rfl (.tmp 82) (.tmp 97) 131 rfl wo.heap.size 134 i2 _ 3 24 Tryz.underlying131 hi2 hx0 hx1 hx2 rfl (by omega) _ m _ rfl (Hrow1.out.alloc _) (some ⟨v1.heap.size, 0, none⟩) 1 1 (relC ⟨x.to, x.start + x.least, x.start + x.most⟩) rfl (src_new v1 (relC ⟨x.to, x.start + x.least, x.start + x.most⟩) 134 1 3 rfl) (by simp [relC, Value.oneCell']) (by simp [maxLen]; omega) (by omega) (by simp; omega) ?_; intro v2 w2 hown2 hg2 hat2; have Hg2 := Lib.hid hg2; obtain ⟨AA2, cc2, rfl⟩ := own_form hown2; have Hown2 := Lib.hid hown2; clear hown2 hg2 hat2)
          have ha1 : Below v1.heap.size v1 (v1.alloc (.cells (relC ⟨x.to, x.start + x.least, x.start + x.most⟩).toArray 134)) := (Below.refl _ _).alloc (Nat.le_refl _) _
          have HM4 := Lib.hid ((HM3.out.below ha1).growR (Hrow1.out.alloc _) HM.out.bel.size Hg2.out)
          have hw24 := Hg2.out.size
          have go := box_cells HM4.out.out
          have gof := box_frozen HM4.out.out
          have hs4 := HM4.out.bel.size
          have hglt : g < w2.heap.size := (Array.getElem?_eq_some_iff.1 HM4.out.out).1
          clear gx
          go_wp2_with (at_builtin; refine wpList_append_src _ rfl (.tmp 100) (.tmp 102) 61 rfl w.heap.size 131 i1 _ 1 24 Tryz.underlying61 hi1 hy0 hy1 hy2 rfl (by omega) _ k us rfl (HM4.out.rels.alloc _) (some ⟨w2.heap.size, 0, none⟩) 1 1 [.slice AA2 (m + 1) cc2] rfl (src_new w2 [.slice AA2 (m + 1) cc2] 131 1 1 rfl) (by simp [Value.oneCell']) (by simp [maxLen]; omega) (by omega) (by simp; omega) ?_; intro v3 w3 hown3 hg3 hat3; have Hg3 := Lib.hid hg3; obtain ⟨AA3, cc3, rfl⟩ := own_form hown3; have Hown3 := Lib.hid hown3; have k3 := own_grow HM4.out.rels HM4.out.out (by decide) hg3; have g81 := box_cells k3; have gf1 := box_frozen k3; clear hown3 hg3 hat3 k3)
          go_roundw
          case rel =>
            have hrl : (relsOf t b).length = m + 1 := by rw [Hre.out]; simp [HMb.out]
            have hown2' : w2.ownsRow w.heap.size 134 3 (.slice AA2 (m + 1) cc2) (relsOf t b).length (relCells (relsOf t b)) := by
              rw [hrl, Hre.out, relCells_snoc]
              exact own_mono Hown2.out HM.out.bel.size
            exact ⟨k + 1, AA3, cc3, _, n + m, _, _, _, by omega, by go_num, rfl, Nat.le_refl _, HM4.out.next hRg Hb.out hown2' Hown3.out Hg3.out⟩
          case measure => simp [intOf]; omega
    · obtain rfl : k = C := by omega
      have gg := box_cells HM.out.out
      have g1 := box_cells HM.out.ret
      have f1 := box_frozen HM.out.ret
      go_wp2
      have hgr := (grown_setB (grown_setB (grown_setB (grown_setB (grown_setB (grown_setB (grown_setB (grown_setB (grown_setB (grown_setB (World.grownBy.refl wo (some R0)) 0 (.int .i64 law.piece)) 1 (.int .i64 law.drive)) 2 (.int .i64 law.spread)) 3 (.int .i64 law.brk)) 4 (.int .i64 law.on)) 5 (.int .i64 law.off)) 6 (.int .i64 law.least)) 7 (.int .i64 law.pieces)) 8 (.slice A k cA)) 9 (.slice A1 t.empty.length c1))
      have bx3 := (blk_set (blk_set (blk_set (blk_set (blk_set (blk_set (blk_set (blk_set (blk_set (blk_set HM.out.ret (o := 0) (.int .i64 law.piece)) (o := 1) (.int .i64 law.drive)) (o := 2) (.int .i64 law.spread)) (o := 3) (.int .i64 law.brk)) (o := 4) (.int .i64 law.on)) (o := 5) (.int .i64 law.off)) (o := 6) (.int .i64 law.least)) (o := 7) (.int .i64 law.pieces)) (o := 8) (.slice A k cA)) (o := 9) (.slice A1 t.empty.length c1))
      have hB3 := ((((((((((HM.out.bel.setCell (p := ⟨R0, 0, none⟩) (by have := hRg; simp only; omega) (.int .i64 law.piece)).setCell (p := ⟨R0, 1, none⟩) (by have := hRg; simp only; omega) (.int .i64 law.drive)).setCell (p := ⟨R0, 2, none⟩) (by have := hRg; simp only; omega) (.int .i64 law.spread)).setCell (p := ⟨R0, 3, none⟩) (by have := hRg; simp only; omega) (.int .i64 law.brk)).setCell (p := ⟨R0, 4, none⟩) (by have := hRg; simp only; omega) (.int .i64 law.on)).setCell (p := ⟨R0, 5, none⟩) (by have := hRg; simp only; omega) (.int .i64 law.off)).setCell (p := ⟨R0, 6, none⟩) (by have := hRg; simp only; omega) (.int .i64 law.least)).setCell (p := ⟨R0, 7, none⟩) (by have := hRg; simp only; omega) (.int .i64 law.pieces)).setCell (p := ⟨R0, 8, none⟩) (by have := hRg; simp only; omega) (.slice A k cA)).setCell (p := ⟨R0, 9, none⟩) (by have := hRg; simp only; omega) (.slice A1 t.empty.length c1))
      simp only [List.setIfInBounds_toArray, List.set_cons_succ, List.set_cons_zero] at bx3
      have hrel := own_keptB HM.out.rels HM.out.ret (by decide) hgr
      have hrlo : RelsOwnR _ w.heap.size us ((c.take k).map (relsOf t)) := ⟨HM.out.own.1, fun j l hl => (by
        obtain ⟨y, h1, h2⟩ := HM.out.own.2 j l hl
        exact ⟨y, h1, own_keptB h2 HM.out.ret (by decide) hgr⟩)⟩
      have htri := own_keptB HM.out.tri HM.out.ret (by decide) hgr
      rw [List.take_of_length_le (by rw [HC.out]; exact Nat.le_refl _)] at hrlo htri
      have hln := HM.out.ln
      rw [List.take_of_length_le (by rw [HC.out]; exact Nat.le_refl _)] at hln
      obtain ⟨Wz, hWz⟩ : ∃ V, V = ((((((((((wo.setCell ⟨R0, 0, none⟩ (.int .i64 law.piece)).setCell ⟨R0, 1, none⟩ (.int .i64 law.drive)).setCell ⟨R0, 2, none⟩ (.int .i64 law.spread)).setCell ⟨R0, 3, none⟩ (.int .i64 law.brk)).setCell ⟨R0, 4, none⟩ (.int .i64 law.on)).setCell ⟨R0, 5, none⟩ (.int .i64 law.off)).setCell ⟨R0, 6, none⟩ (.int .i64 law.least)).setCell ⟨R0, 7, none⟩ (.int .i64 law.pieces)).setCell ⟨R0, 8, none⟩ (.slice A k cA)).setCell ⟨R0, 9, none⟩ (.slice A1 t.empty.length c1)) := ⟨_, rfl⟩
      rw [← hWz] at bx3 hB3 hrel hrlo htri ⊢
      clear hWz hgr
      refine bodyPost_ret (results_cell_row2 rfl _ _ R0 63 #[.int .i64 law.piece, .int .i64 law.drive, .int .i64 law.spread, .int .i64 law.brk, .int .i64 law.on, .int .i64 law.off, .int .i64 law.least, .int .i64 law.pieces, .slice A k cA, .slice A1 t.empty.length c1] (0, 0) _ rfl bx3 rfl rfl (by kernel_rfl)) rfl ?_
      · subst hln
        exact ⟨A, B, cA, cB, (by rw [HC.out]; rfl), ⟨by rw [HC.out]; exact blocks_of_ownR hrel hrlo, HT.out.rows.below hB3⟩, nums_of_own htri, hB3⟩
end Go.Proofs.YtckgapeednokjaaGreat
