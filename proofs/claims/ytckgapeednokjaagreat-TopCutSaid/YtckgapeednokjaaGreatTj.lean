import Derived.Test.YtckgapeednokjaaGreatTi
set_option linter.unusedVariables false
set_option linter.unusedSimpArgs false
namespace Go.Proofs.YtckgapeednokjaaGreat
open Go Go.Proofs Go.RowKit Go.Shelf

attribute [local go_sem] Oper.semAt_some
/-! ### run: the pairs -/
def mayD (t : Tab) (i k : Nat) : Bool := mayT t (tripAt t i) (tripAt t k)
def rowP (t : Tab) (a m : Nat) : List (Nat × Nat) := ((List.range m).filter (mayD t a)).map fun b => (a, b)
def pairsTo (t : Tab) (N i k : Nat) : List (Nat × Nat) := ((List.range i).flatMap fun a => rowP t a N) ++ rowP t i k
def pairsL (t : Tab) (N : Nat) : List (Nat × Nat) := (List.range N).flatMap fun a => rowP t a N
theorem rowP_zero (t : Tab) (a : Nat) : rowP t a 0 = [] := rfl
theorem pairsTo_row (t : Tab) (N i : Nat) : pairsTo t N i N = pairsTo t N (i + 1) 0 := by
  unfold pairsTo
  rw [List.range_succ, List.flatMap_append, rowP_zero]
  simp
theorem pairsTo_end (t : Tab) (N : Nat) : pairsTo t N N 0 = pairsL t N := by
  unfold pairsTo pairsL
  rw [rowP_zero, List.append_nil]
theorem pairsTo_hit {t : Tab} {N i k : Nat} (h : mayD t i k = true) : pairsTo t N i (k + 1) = pairsTo t N i k ++ [(i, k)] := by
  unfold pairsTo rowP
  rw [List.range_succ, List.filter_append, List.map_append]
  simp [h]
theorem pairsTo_miss {t : Tab} {N i k : Nat} (h : mayD t i k = false) : pairsTo t N i (k + 1) = pairsTo t N i k := by
  unfold pairsTo rowP
  rw [List.range_succ, List.filter_append, List.map_append]
  simp [h]
theorem range_pre {m n : Nat} (h : m ≤ n) : List.range m <+: List.range n := by
  obtain ⟨d, rfl⟩ : ∃ d, n = m + d := ⟨n - m, by omega⟩
  rw [List.range_add]
  exact List.prefix_append _ _
theorem pairsTo_pre (t : Tab) {N i k : Nat} (hi : i < N) (hk : k ≤ N) : pairsTo t N i k <+: pairsL t N := by
  obtain ⟨d, rfl⟩ : ∃ d, N = (i + 1) + d := ⟨N - (i + 1), by omega⟩
  unfold pairsL pairsTo
  rw [List.range_add, List.flatMap_append, List.range_succ, List.flatMap_append]
  have h1 : rowP t i k <+: rowP t i (i + 1 + d) := (range_pre hk).filter _ |>.map _
  obtain ⟨r, hr⟩ := h1
  refine ⟨r ++ ((List.range d).map fun x => i + 1 + x).flatMap fun a => rowP t a (i + 1 + d), ?_⟩
  rw [List.append_assoc, ← List.append_assoc (rowP t i k), hr]
  simp only [List.flatMap_cons, List.flatMap_nil, List.append_nil, List.append_assoc]
theorem pairs_at {t : Tab} {N i k : Nat} (hi : i < N) (hk : k < N) (h : mayD t i k = true) : ∃ hj : (pairsTo t N i k).length < (pairsL t N).length, (pairsL t N)[(pairsTo t N i k).length] = (i, k) := by
  have h1 := pairsTo_pre t hi (show k + 1 ≤ N by omega)
  rw [pairsTo_hit h] at h1
  obtain ⟨r, hr⟩ := h1
  have e : (pairsL t N)[(pairsTo t N i k).length]? = some (i, k) := by
    rw [← hr, List.append_assoc, List.getElem?_append_right (Nat.le_refl _)]
    simp
  exact ⟨(List.getElem?_eq_some_iff.1 e).1, (List.getElem?_eq_some_iff.1 e).2⟩
section
variable {w w' : World}
def Same0 (w w' : World) : Prop := ∀ k, k < w.heap.size → w'.heap[k]? = w.heap[k]?
theorem Same0.trans' {A B C : World} {X : Nat → Prop} (h : Same0 A B) (k : ∀ j, X j → C.heap[j]? = B.heap[j]?) (hX : ∀ j, j < A.heap.size → X j) : Same0 A C := fun j hj => (k j (hX j hj)).trans (h j hj)
theorem Same0.cell (h : Same0 w w') {p : Addr} {x : Value} (hc : w.cell? p = some x) : w'.cell? p = some x := by
  rw [← hc]
  exact World.cell?_of_block (h _ (World.block_lt_of_cell? _ _ hc))
theorem NumsAt.same {K : IntKind} {v : Value} {l : List Int} (h : NumsAt K w v l) (hb : Same0 w w') : NumsAt K w' v l := by
  obtain ⟨A, c, rfl, h1, h2, h3⟩ := h
  refine ⟨A, c, rfl, h1, h2, fun hp => ?_⟩
  obtain ⟨b, o, e, hc⟩ := h3 hp
  exact ⟨b, o, e, fun k hk => hb.cell (hc k hk)⟩
theorem RowsAt.same {v : Value} {ll : List (List Int)} (h : RowsAt w v ll) (hb : Same0 w w') : RowsAt w' v ll := by
  obtain ⟨A, c, rfl, h1, h2, h3⟩ := h
  refine ⟨A, c, rfl, h1, h2, fun hp => ?_⟩
  obtain ⟨b, o, e, hc⟩ := h3 hp
  refine ⟨b, o, e, fun k hk => ?_⟩
  obtain ⟨u, hu, hn⟩ := hc k hk
  exact ⟨u, hb.cell hu, hn.same hb⟩
theorem TripsAt.same {v : Value} {l : List Trip} (h : TripsAt w v l) (hb : Same0 w w') : TripsAt w' v l := by
  obtain ⟨A, c, rfl, h1, h2, h3⟩ := h
  refine ⟨A, c, rfl, h1, h2, fun hp => ?_⟩
  obtain ⟨b, o, e, hc⟩ := h3 hp
  refine ⟨b, o, e, fun k r hr => ?_⟩
  obtain ⟨c0, c1, c2, c3, c4, c5⟩ := hc k r hr
  exact ⟨hb.cell c0, hb.cell c1, hb.cell c2, hb.cell c3, hb.cell c4, hb.cell c5⟩
theorem TabAt.same {u z : Value} {t : Tab} (h : TabAt w u z t) (hb : Same0 w w') : TabAt w' u z t := ⟨h.rows.same hb, h.trips.same hb⟩
end
/-- The blocks of X, and all trips, are kept. -/
def KeepT (X : Nat → Prop) (W W' : World) : Prop := (∀ k, X k → W'.heap[k]? = W.heap[k]?) ∧ ∀ (k : Nat) (xs : Array Value) (fr : Nat × Nat), W.heap[k]? = some (Obj.cells xs 112 fr) → W'.heap[k]? = some (Obj.cells xs 112 fr)
theorem KeepT.refl (X : Nat → Prop) (W : World) : KeepT X W W := ⟨fun _ _ => rfl, fun _ _ _ h => h⟩
theorem KeepT.trans {X : Nat → Prop} {A B C : World} (h : KeepT X A B) (k : KeepT X B C) : KeepT X A C := ⟨fun i hi => (k.1 i hi).trans (h.1 i hi), fun i xs fr hi => k.2 i xs fr (h.2 i xs fr hi)⟩
theorem KeepT.below {X : Nat → Prop} {A B : World} (hX : ∀ k, X k → k < A.heap.size) (h : Below A.heap.size A B) : KeepT X A B :=
  ⟨fun k hk => h.block k (hX k hk), fun k xs fr hk => (h.block k (Array.getElem?_eq_some_iff.1 hk).1).trans hk⟩
theorem KeepT.lt {X : Nat → Prop} {A B : World} (h : KeepT X A B) {k : Nat} (hk : X k) (hA : k < A.heap.size) : k < B.heap.size := by
  have h1 := h.1 k hk
  rw [Array.getElem?_eq_getElem hA] at h1
  exact (Array.getElem?_eq_some_iff.1 h1).1
def prT (ps : List (Nat × Nat)) (x : { j : Nat // j < ps.length }) : Array Value := #[.int .i64 ((ps[x.1].1 : Nat) : Int), .int .i64 ((ps[x.1].2 : Nat) : Int)]
set_option maxRecDepth 100000 in
set_option maxHeartbeats 3200000 in
theorem pairs1_in (n : Nat) (hn : 1 ≤ n) (id B : Nat) (X : Nat → Prop) (t : Tab) (u z : Value) (w0 : World) (hT : TabAt w0 u z t) (ht : TabOk t) (W : World) (hXW : ∀ k, X k → k < W.heap.size) (hX0 : ∀ k, k < w0.heap.size → X k) (hXB : X B)
    (hW0 : Same0 w0 W) (hB : W.heap[B]? = some (.cells #[.int .i64 t.places, .int .i64 t.lay, u, z] 58 (0, 0)))
    (J Jx : List { j : Nat // j < (pairsL t t.trips.length).length } → World → Prop)
    (hJ : AbidesFrom W.heap.size J) (hY : ∀ pre x W1, J pre W1 → pre.length < (pairsL t t.trips.length).length → YieldAt Fence.wide (n - 1) Tryz.prog id (prT (pairsL t t.trips.length) x) W1 fun e W' =>
      (e = .returned (.bool true) ∧ J (pre ++ [x]) W' ∧ KeepT X W1 W') ∨ (e = .returned (.bool false) ∧ Jx (pre ++ [x]) W'))
    (hst : J [] W) :
    CallsIn Fence.wide n Tryz.prog 193 #[.func (.yield id) #[] #[], .pointer (some ⟨B, 0, none⟩)] W fun e W' => (∃ v, e = .returned v) ∧
      ((∃ ys, ys = ups (pairsL t t.trips.length).length (pairsL t t.trips.length).length ∧ J ys W') ∨ (∃ pre, True ∧ Jx pre W')) := by
  obtain ⟨A1, c1, rfl, _, _⟩ := hT.rows.form
  obtain ⟨A2, c2, rfl, _, _⟩ := hT.trips.form
  have HT := Lib.hid hT
  have Ht := Lib.hid ht
  have h12 := ht.trips
  obtain ⟨N, hN⟩ : ∃ N, t.trips.length = N := ⟨_, rfl⟩
  have HN := Lib.hid hN
  obtain ⟨ps, hps⟩ : ∃ ps, pairsL t N = ps := ⟨_, rfl⟩
  have hNps : pairsL t t.trips.length = ps := by rw [hN]; exact hps
  clear hT ht
  revert J Jx
  rw [hNps]
  intro J Jx hJ hY hst
  have hps2 : pairsL t N = ps := hps
  have Hat := Lib.hid (fun (i k : Nat) (hi : i < N) (hk : k < N) (h : mayD t i k = true) => (show ∃ hj : (pairsTo t N i k).length < ps.length, ps[(pairsTo t N i k).length] = (i, k) by subst hps; exact pairs_at hi hk h))
  have Hle := Lib.hid (fun (i k : Nat) (hi : i < N) (hk : k ≤ N) => (show (pairsTo t N i k).length ≤ ps.length by subst hps; exact (pairsTo_pre t hi hk).length_le))
  have hend : (pairsTo t N N 0).length = ps.length := by rw [pairsTo_end, hps]
  have Hend := Lib.hid hend
  rw [hN] at h12 hB
  clear hps hps2 hNps hend
  have Hkeep := Lib.hid (fun (V : World) (h : KeepT X W V) => (hW0.trans' h.1 hX0 : Same0 w0 V))
  refine callsIn_of_wp Tryz.func193 rfl trivial ?_ rfl
  simp only [Tryz.ntmps193, List.size_toArray, List.length_cons, List.length_nil, Nat.reduceAdd, Nat.reduceSub, Array.replicate_succ, Array.replicate_zero, List.push_toArray, List.append_toArray, List.nil_append, List.cons_append]
  have gc := box_cells hB
  gi_wp2
  gi_loopw [10] (fun i wr => ∃ k : Nat, k ≤ N ∧ i = .int .i64 k ∧ J (ups ps.length (pairsTo t N k 0).length) wr ∧ KeepT X W wr) (fun i _ => N - (intOf i).toNat)
  case atStart => exact ⟨0, Nat.zero_le _, rfl, hst, KeepT.refl _ _⟩
  case round =>
    obtain ⟨k, hk, rfl, hJs, hnx⟩ := hrel
    by_cases hlt : k < N
    · have hXr : ∀ j, X j → j < wr.heap.size := fun j hj => hnx.lt hj (hXW j hj)
      have hBr := (hnx.1 B hXB).trans hB
      have g3 := box_cells hBr 3
      obtain ⟨b, o, x, eA, hx, x0, x1, x2, x3, x4, x5, hbl⟩ := (HT.out.trips.same (Hkeep.out wr hnx)).at_ (k := k) (by rw [HN.out]; exact hlt)
      subst eA
      have hxe : tripAt t k = x := by unfold tripAt; rw [hx]; rfl
      have Hxe := Lib.hid hxe
      have Hxo := Lib.hid (Ht.out.trip x (List.mem_of_getElem? hx))
      have hBlt : B < wr.heap.size := (Array.getElem?_eq_some_iff.1 hBr).1
      clear hx hxe
      simp only [List.getElem?_toArray, List.getElem?_cons_zero, List.getElem?_cons_succ] at g3
      gi_wp2_with fail
      refine wpIn_name (fun V => Below wr.heap.size wr V ∧ V.heap[wr.heap.size]? = some (.cells #[.int .i64 x.fr, .int .i64 x.to, .int .i64 x.start, .int .i64 x.least, .int .i64 x.most, .int .i64 x.kind] 112 (0, 0))) ⟨(Below.refl _ _).alloc (Nat.le_refl _) _, heap_alloc_new wr _⟩ (fun V hV => ?_)
      obtain ⟨hbV, hPV⟩ := hV
      obtain ⟨P, hP⟩ : ∃ P, wr.heap.size = P := ⟨_, rfl⟩
      have hJV : J (ups ps.length (pairsTo t N k 0).length) V := hJ _ _ _ none hJs (grown_below hbV) (fun r e => by cases e)
      have hkV : KeepT X W V := hnx.trans (KeepT.below hXr hbV)
      rw [hP] at hPV ⊢
      clear hbV hP hJs hnx g3 hBr hBlt hXr
      gi_loopw [18] (fun i wr => ∃ m : Nat, m ≤ N ∧ i = .int .i64 m ∧ J (ups ps.length (pairsTo t N k m).length) wr ∧ KeepT X W wr ∧ wr.heap[P]? = some (.cells #[.int .i64 x.fr, .int .i64 x.to, .int .i64 x.start, .int .i64 x.least, .int .i64 x.most, .int .i64 x.kind] 112 (0, 0))) (fun i _ => N - (intOf i).toNat)
      case atStart => exact ⟨0, Nat.zero_le _, rfl, hJV, hkV, hPV⟩
      case round =>
        obtain ⟨m, hm, rfl, hJm, hkm, hPm⟩ := hrel
        obtain ⟨wo, rfl⟩ : ∃ wo : World, wo = wr := ⟨_, rfl⟩
        have hXr : ∀ j, X j → j < wo.heap.size := fun j hj => hkm.lt hj (hXW j hj)
        by_cases hmN : m < N
        · have hBr := (hkm.1 B hXB).trans hB
          have HTo := Lib.hid (HT.out.same (Hkeep.out wo hkm))
          obtain ⟨b', o', y, eA, hy, y0, y1, y2, y3, y4, y5, _⟩ := HTo.out.trips.at_ (k := m) (by rw [HN.out]; exact hmN)
          cases eA
          have hye : tripAt t m = y := by unfold tripAt; rw [hy]; rfl
          have hyo := Ht.out.trip y (List.mem_of_getElem? hy)
          have Hmay := Lib.hid (fun (V : World) (h : Below wo.heap.size wo V) => mayG_any t _ _ V (HTo.out.below h) Ht.out x y Hxo.out hyo)
          have hmd : mayT t x y = mayD t k m := by unfold mayD; rw [Hxe.out, hye]
          rw [hmd, HN.out] at Hmay
          have hBlt : B < wo.heap.size := (Array.getElem?_eq_some_iff.1 hBr).1
          have hPlt : P < wo.heap.size := (Array.getElem?_eq_some_iff.1 hPm).1
          have gB := box_cells hBr
          have gP := box_cells hPm
          have Hbx := Lib.hid hBr
          have Hpx := Lib.hid hPm
          have Hkm := Lib.hid hkm
          clear hy hye hyo hmd hkm hBr hPm
          gi_wp2_with fail
          refine ⟨trivial, ?_⟩
          refine (callsIn_wide.2 (Hmay.out _ ((Below.refl wo.heap.size wo).alloc (Nat.le_refl _) _))).mono ?_
          rintro e V2 ⟨rfl, hb2⟩
          have hb := ((Below.refl wo.heap.size wo).alloc (Nat.le_refl _) (.cells #[.int .i64 y.fr, .int .i64 y.to, .int .i64 y.start, .int .i64 y.least, .int .i64 y.most, .int .i64 y.kind] 112)).trans (hb2.mono (by simp))
          have hJ2 : J (ups ps.length (pairsTo t N k m).length) V2 := hJ _ _ _ none hJm (grown_below hb) (fun r e => by cases e)
          have hk2 : KeepT X W V2 := Hkm.out.trans (KeepT.below hXr hb)
          have hP2 := (hb.block _ hPlt).trans Hpx.out
          clear hb2 hb hJm y0 y1 y2 y3 y4 y5 gB gP
          cases hmd : mayD t k m with
          | true =>
            have Hmd := Lib.hid hmd
            clear hmd
            obtain ⟨hj, hpj⟩ := Hat.out k m hlt hmN Hmd.out
            have hin := hY (ups ps.length (pairsTo t N k m).length) ⟨(pairsTo t N k m).length, hj⟩ V2 hJ2 (by rw [ups_length (Nat.le_of_lt hj)]; exact hj)
            simp only [prT, hpj] at hin
            obtain ⟨fn, tmps, assign, body, hyd, hR⟩ := hin
            have Hj := Lib.hid hj
            clear hpj
            gi_wp2
            refine hR.mono ?_
            rintro e W3 (⟨rfl, hJ3, hk3⟩ | ⟨rfl, hJx3⟩)
            · gi_wp2
              go_roundw
              case rel =>
                refine ⟨m + 1, hmN, by go_num, ?_, hk2.trans hk3, hk3.2 _ _ _ hP2⟩
                rw [pairsTo_hit Hmd.out, List.length_append]
                rw [show (pairsTo t N k m).length + [(k, m)].length = (pairsTo t N k m).length + 1 from rfl, ups_succ Hj.out]
                exact hJ3
              case measure => simp [intOf]; omega
            · gi_wp2
              refine bodyPost_ret (results_none rfl _ _ _) rfl ?_
              exact ⟨⟨_, rfl⟩, .inr ⟨_, trivial, hJx3⟩⟩
          | false =>
            have Hmd := Lib.hid hmd
            clear hmd
            gi_wp2
            refine ⟨fun f h => (by cases h), ?_⟩
            gi_wp2
            go_roundw
            case rel => exact ⟨m + 1, hmN, by go_num, by rw [pairsTo_miss Hmd.out]; exact hJ2, hk2, hP2⟩
            case measure => simp [intOf]; omega
        · obtain rfl : m = N := by omega
          gi_wp2
          go_roundw
          case rel => exact ⟨k + 1, by omega, by go_num, by rw [← pairsTo_row]; exact hJm, hkm⟩
          case measure => simp [intOf]; omega
    · obtain rfl : k = N := by omega
      rw [Hend.out] at hJs
      gi_wp2
      go_end0
      exact ⟨⟨_, rfl⟩, .inl ⟨_, rfl, hJs⟩⟩
theorem pairs_stops (n : Nat) (hn : 1 ≤ n) (B : Nat) (X : Nat → Prop) (t : Tab) (u z : Value) (w0 : World) (hT : TabAt w0 u z t) (ht : TabOk t) (w : World) (hXw : ∀ k, X k → k < w.heap.size) (hX0 : ∀ k, k < w0.heap.size → X k) (hXB : X B)
    (hW0 : Same0 w0 w) (hB : w.heap[B]? = some (.cells #[.int .i64 t.places, .int .i64 t.lay, u, z] 58 (0, 0))) (hsz : w0.heap.size ≤ w.heap.size) :
    SeqStopsK Fence.wide n Tryz.prog 193 #[.pointer (some ⟨B, 0, none⟩)] (prT (pairsL t t.trips.length)) (KeepT X) (fun ys => ys = ups (pairsL t t.trips.length).length (pairsL t t.trips.length).length) (fun _ => True) (pairsL t t.trips.length).length w := fun id J Jx W hW hJ _ hY hst =>
  pairs1_in n hn id B X t u z w0 hT ht W (fun k hk => Nat.lt_of_lt_of_le (hXw k hk) hW.size) hX0 hXB (fun k hk => (hW.block k (by omega)).trans (hW0 k hk)) ((hW.block B (hXw B hXB)).trans hB) J Jx hJ hY hst
end Go.Proofs.YtckgapeednokjaaGreat
