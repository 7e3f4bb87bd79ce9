import Derived.Test.YtckgapeednokjaaGreatTj
set_option linter.unusedVariables false
set_option linter.unusedSimpArgs false
namespace Go.Proofs.YtckgapeednokjaaGreat
open Go Go.Proofs Go.RowKit Go.Shelf

attribute [local go_sem] Oper.semAt_some
/-! ### run: follows -/
theorem pairs_any (t : Tab) (u z : Value) (w : World) : Calls Tryz.prog 141 #[.agg #[.int .i64 t.places, .int .i64 t.lay, u, z]] w fun e w' => ∃ B, e = .returned (.func (.func 193) #[] #[.pointer (some ⟨B, 0, none⟩)]) ∧ w.heap.size ≤ B ∧ w'.heap[B]? = some (.cells #[.int .i64 t.places, .int .i64 t.lay, u, z] 58 (0, 0)) ∧ Below w.heap.size w w' := by
  have hw0 : Below w.heap.size w (w.alloc (.cells #[.int .i64 t.places, .int .i64 t.lay, u, z] 58)) := (Below.refl _ _).alloc (Nat.le_refl _) _
  go_enter Tryz.func141, Tryz.ntmps141
  go_wp2
  go_ret
  exact ⟨w.heap.size, rfl, Nat.le_refl _, heap_alloc_new w _, hw0⟩
def rowOf (L : List (Nat × Nat)) (i : Nat) : List Int := (L.filter fun p => p.1 == i).map fun p => ((p.2 : Nat) : Int)
theorem rowOf_nil (i : Nat) : rowOf [] i = [] := rfl
theorem rowOf_snoc (L : List (Nat × Nat)) (i k j : Nat) : rowOf (L ++ [(i, k)]) j = if i = j then rowOf L j ++ [(k : Int)] else rowOf L j := by
  unfold rowOf
  rw [List.filter_append, List.map_append]
  by_cases h : i = j
  · simp [h]
  · simp [h]
theorem rowOf_len (L : List (Nat × Nat)) (i : Nat) : (rowOf L i).length ≤ L.length := by
  unfold rowOf
  rw [List.length_map]
  exact List.length_filter_le _ _
theorem pairsL_len (t : Tab) (N : Nat) : (pairsL t N).length ≤ N * N := by
  unfold pairsL
  have key : ∀ m, ((List.range m).flatMap fun a => rowP t a N).length ≤ m * N := fun m => by
    induction m with
    | zero => simp
    | succ m ih =>
      rw [List.range_succ, List.flatMap_append, List.length_append, Nat.succ_mul]
      have : (rowP t m N).length ≤ N := by
        unfold rowP
        rw [List.length_map]
        exact Nat.le_trans (List.length_filter_le _ _) (by simp)
      simp only [List.flatMap_cons, List.flatMap_nil, List.append_nil]
      omega
  exact key N
theorem blk_other0 {w : World} {P Q o : Nat} {xs : Array Value} {t : TypeId} {fr : Nat × Nat} {u : Value} (h : w.heap[P]? = some (.cells xs t fr)) (hne : P ≠ Q) : (w.setCell ⟨Q, o, none⟩ u).heap[P]? = some (.cells xs t fr) :=
  (Below.heap_setCell w ⟨Q, o, none⟩ u P hne).trans h
/-- The memory of follows: its rows, each in a block of its own. -/
structure FolW (N O C M : Nat) (L : List (Nat × Nat)) (us : List Value) (W : World) : Prop where
  c0 : W.heap[C]? = some (.cells #[.slice (some ⟨O, 0, none⟩) N N] 45 (0, 0))
  o0 : W.heap[O]? = some (.cells us.toArray 29 (0, 0))
  len : us.length = N
  row : ∀ i, i < N → ∃ A c, us[i]? = some (.slice A (rowOf L i).length c) ∧ W.ownsRow M 3 1 (.slice A (rowOf L i).length c) (rowOf L i).length ((rowOf L i).map (.int .i64))
  apart : ∀ (i j : Nat) (u v : Value), us[i]? = some u → us[j]? = some v → i ≠ j → u.ownBlock = none ∨ u.ownBlock ≠ v.ownBlock
  hO : O < M
  hC : C < M
  hOC : O ≠ C
  hM : M ≤ W.heap.size
section
variable {N O C M : Nat} {L : List (Nat × Nat)} {us : List Value} {W W' : World}
theorem own_keepC {e : TypeId} {size n : Nat} {v : Value} {xs : List Value} (h : W.ownsRow M e size v n xs) (hk : ∀ (k : Nat) (xs : Array Value) (t : TypeId) (fr : Nat × Nat), W.heap[k]? = some (.cells xs t fr) → W'.heap[k]? = some (.cells xs t fr)) : W'.ownsRow M e size v n xs := by
  refine ⟨h.1, ?_⟩
  rcases h.2 with h0 | ⟨g, cap, cur, h1, h2, h3, h4⟩
  · exact .inl h0
  · exact .inr ⟨g, cap, cur, h1, h2, hk _ _ _ _ h3, h4⟩
theorem FolW.keep (h : FolW N O C M L us W) (hs : W.heap.size ≤ W'.heap.size) (hk : ∀ (k : Nat) (xs : Array Value) (t : TypeId) (fr : Nat × Nat), W.heap[k]? = some (.cells xs t fr) → W'.heap[k]? = some (.cells xs t fr)) : FolW N O C M L us W' :=
  ⟨hk _ _ _ _ h.c0, hk _ _ _ _ h.o0, h.len, fun i hi => by
    obtain ⟨A, c, h1, h2⟩ := h.row i hi
    exact ⟨A, c, h1, own_keepC h2 hk⟩, h.apart, h.hO, h.hC, h.hOC, Nat.le_trans h.hM hs⟩
theorem own_lowS {e : TypeId} {size n : Nat} {v : Value} {xs : List Value} (h : W.ownsRow M e size v n xs) {p : Addr} (hp : p.block < M) (x : Value) : (W.setCell p x).ownsRow M e size v n xs := by
  refine h.kept (row := some p.block) ⟨rfl, rfl, rfl, by simp [World.setCell], fun k _ hkP => Below.heap_setCell W p x k (fun e => hkP (by rw [e]))⟩ ?_
  cases hv : v.ownBlock with
  | none => left; rfl
  | some g =>
    right
    intro e
    have := (h.lt g hv).1
    simp only [Option.some.injEq] at e
    omega
theorem grow_lowR {e : TypeId} {size n : Nat} {v : Value} {xs : List Value} (ho : W.ownsRow M e size v n xs) (hM : M ≤ W.heap.size) (hg : W.grownBy W' v.ownBlock) : ∀ k, k < M → W'.heap[k]? = W.heap[k]? := fun k hk =>
  hg.block k (by omega) (fun e => by have := (ho.lt k e.symm).1; omega)
/-- One follower more. -/
theorem FolW.next (h : FolW N O C M L us W) {o : Obj} {w2 : World} {i k : Nat} {A A' : Option Addr} {c c' : Nat} {n : Nat} (hi : i < N) (hn : (rowOf L i).length = n) (hu : us[i]? = some (.slice A n c)) (hg : (W.alloc o).grownBy w2 (Value.slice A n c).ownBlock)
    (hown : w2.ownsRow M 3 1 (.slice A' (n + 1) c') (n + 1) ((rowOf L i).map (.int .i64) ++ [.int .i64 (k : Int)]))
    (hat : (Value.slice A' (n + 1) c').ownBlock = (Value.slice A n c).ownBlock ∨ (Value.slice A' (n + 1) c').ownBlock = some (W.alloc o).heap.size) :
    FolW N O C M (L ++ [(i, k)]) (us.set i (.slice A' (n + 1) c')) (w2.setCell ⟨O, i, none⟩ (.slice A' (n + 1) c')) := by
  subst hn
  obtain ⟨A0, c0, hu0, hrow0⟩ := h.row i hi
  rw [hu] at hu0
  cases hu0
  have ha : Below W.heap.size W (W.alloc o) := (Below.refl _ _).alloc (Nat.le_refl _) o
  have hMa : M ≤ (W.alloc o).heap.size := by have := h.hM; simp; omega
  have hlow := grow_lowR (hrow0.alloc o) hMa hg
  have hlo : ∀ k, k < M → w2.heap[k]? = W.heap[k]? := fun k hk => (hlow k hk).trans (ha.block k (by have := h.hM; omega))
  have hO := h.hO
  refine ⟨blk_other ((hlo _ h.hC).trans h.c0) (fun e => h.hOC e.symm) _, ?_, by rw [List.length_set]; exact h.len, fun j hj => ?_, fun a b u v ha' hb' hne => ?_, h.hO, h.hC, h.hOC, ?_⟩
  · have := blk_set (o := i) ((hlo _ h.hO).trans h.o0) (.slice A' ((rowOf L i).length + 1) c')
    simpa only [List.setIfInBounds_toArray] using this
  · rw [rowOf_snoc, List.getElem?_set]
    by_cases e : i = j
    · subst e
      rw [if_pos rfl, if_pos rfl, if_pos (by rw [h.len]; exact hi)]
      refine ⟨A', c', by simp, ?_⟩
      have := own_lowS hown (p := ⟨O, i, none⟩) h.hO (.slice A' ((rowOf L i).length + 1) c')
      simpa using this
    · rw [if_neg e, if_neg e]
      obtain ⟨B, d, h1, h2⟩ := h.row j hj
      refine ⟨B, d, h1, own_lowS ?_ h.hO _⟩
      refine (h2.alloc o).kept hg ?_
      exact h.apart j i _ _ h1 hu (fun e2 => e e2.symm)
  · have hold : ∀ (j : Nat) (v : Value), us[j]? = some v → ∀ g, v.ownBlock = some g → g < W.heap.size := fun j v hv g hg' => by
      have hj : j < N := by rw [← h.len]; exact (List.getElem?_eq_some_iff.1 hv).1
      obtain ⟨B, d, h1, h2⟩ := h.row j hj
      rw [hv] at h1
      cases h1
      exact (h2.lt g hg').2
    rw [List.getElem?_set] at ha' hb'
    by_cases e1 : i = a
    · subst e1
      rw [if_pos rfl, if_pos (by rw [h.len]; exact hi)] at ha'
      obtain rfl := (Option.some.inj ha').symm
      rw [if_neg hne] at hb'
      rcases hat with h1 | h1
      · rw [h1]
        exact h.apart i b _ _ hu hb' hne
      · right
        rw [h1]
        intro e
        have := hold b v hb' _ e.symm
        simp at this
        omega
    · rw [if_neg e1] at ha'
      by_cases e2 : i = b
      · subst e2
        rw [if_pos rfl, if_pos (by rw [h.len]; exact hi)] at hb'
        obtain rfl := (Option.some.inj hb').symm
        rcases hat with h1 | h1
        · rw [h1]
          exact h.apart a i _ _ ha' hu hne
        · rw [h1]
          cases hv : u.ownBlock with
          | none => left; rfl
          | some g =>
            right
            intro e
            simp only [Option.some.injEq] at e
            have := hold a u ha' g hv
            simp at e
            omega
      · rw [if_neg e2] at hb'
        exact h.apart a b u v ha' hb' hne
  · have q1 := hg.size
    have q2 := h.hM
    simp at q1
    simp [World.setCell]
    omega
end
theorem wpListIn_make_fullT {F : Fence} {n : Nat} {P : Program} (w : World) {ops : Array Oper} {rest : List Oper} {o : Oper} {a : Act} {Q : Exit → Act → World → Prop}
    (hg : o.guard = none) (l c : Operand) (t : TypeId) (hop : o.op = Op.makeSlice t l c)
    (base : Nat) (e : TypeId) (i : TypeInfo) (z : Value) (size : Nat) (h1 : P.underlying t = some (.slice e)) (h2 : P.info? e = some i) (h3 : i.zero = some z) (h4 : i.size = size)
    (kl kc : IntKind) (L C : Int) (m : Nat) (hl : a.eval l = .int kl L) (hc : a.eval c = .int kc C) (hL : L = (m : Int)) (hC : C = (m : Int)) (b2 : i.bytes * m ≤ 281474976710656) (b3 : m ≤ maxLen) (b4 : base ≤ w.heap.size)
    (hK : ∀ w', w'.ownsRow base e size (.slice (some ⟨w.heap.size, 0, none⟩) m m) m (madeCells z.cells (m * size)).toList → w.grownBy w' none → wpListIn F n P ops Q rest (a.put o.dst (.slice (some ⟨w.heap.size, 0, none⟩) m m)) w') :
    wpListIn F n P ops Q (o :: rest) a w := by
  refine wpListIn_plain hg fun K hK' => ?_
  obtain ⟨w', hrun, r1, r2⟩ := run_make_full (P := P) w base t e i z size h1 h2 h3 h4 kl kc m b2 b3 b4
  subst hL
  subst hC
  unfold Oper.wpIn
  refine ⟨?_, ?_⟩
  · simp [Oper.about, hop]
  · rw [Oper.semAt_plain F _ _ (by rw [hop]; intro c hc'; cases hc')]
    simp [execOp, hop, hl, hc, hrun, Result.andThen]
    exact hK' _ _ (hK w' r1 r2)
theorem pairs_lt {t : Tab} {N i k : Nat} (h : (i, k) ∈ pairsL t N) : i < N ∧ k < N ∧ mayD t i k = true := by
  unfold pairsL rowP at h
  simp only [List.mem_flatMap, List.mem_map, List.mem_filter, List.mem_range, Prod.mk.injEq] at h
  obtain ⟨a, ha, b, ⟨hb, hm⟩, rfl, rfl⟩ := h
  exact ⟨ha, hb, hm⟩
theorem pairs_stopsE (n : Nat) (hn : 1 ≤ n) (B : Nat) (X : Nat → Prop) (t : Tab) (u z : Value) (w0 : World) (hT : TabAt w0 u z t) (ht : TabOk t) (w : World) (hXw : ∀ k, X k → k < w.heap.size) (hX0 : ∀ k, k < w0.heap.size → X k) (hXB : X B)
    (hW0 : Same0 w0 w) (hB : w.heap[B]? = some (.cells #[.int .i64 t.places, .int .i64 t.lay, u, z] 58 (0, 0))) (hsz : w0.heap.size ≤ w.heap.size) (ps : List (Nat × Nat)) (hps : ps = pairsL t t.trips.length) :
    SeqStopsK Fence.wide n Tryz.prog 193 #[.pointer (some ⟨B, 0, none⟩)] (prT ps) (KeepT X) (fun ys => ys = ups ps.length ps.length) (fun _ => True) ps.length w := by
  subst hps
  exact pairs_stops n hn B X t u z w0 hT ht w hXw hX0 hXB hW0 hB hsz
/-- The rows of follows so far. -/
structure FolSt (N O C M : Nat) (L : List (Nat × Nat)) (W : World) : Prop where
  st : ∃ us, FolW N O C M L us W
theorem FolSt.own {N O C M : Nat} {α : Type} {B : Nat} (f : List α → List (Nat × Nat)) : OwnFrom B (fun (pre : List α) W => FolSt N O C M (f pre) W) := fun s W W' row h hg hr => by
  obtain ⟨us, h⟩ := h.st
  refine ⟨us, h.keep hg.size fun k xs t fr hk => (hg.block k (Array.getElem?_eq_some_iff.1 hk).1 (fun e => ?_)).trans hk⟩
  obtain ⟨_, o, ho, hc⟩ := hr k e.symm
  rw [hk] at ho
  cases ho
  cases hc
theorem ups_mapT {α : Type} (ps : List α) : ∀ k, k ≤ ps.length → (ups ps.length k).map (fun x => ps[x.1]) = ps.take k
  | 0, _ => by simp [ups]
  | k + 1, hk => by rw [ups_succ (by omega), List.map_append, ups_mapT ps k (by omega), List.take_succ_eq_append_getElem (by omega)]; rfl
theorem made_slices (N : Nat) : (madeCells (Value.slice none 0 0).cells (N * 1)).toList = List.replicate N (Value.slice none 0 0) := by
  rw [Nat.mul_one]
  exact toList_madeCells_one _ _
/-- Who may follow each trip, in new memory. -/
def GivesFollows (t : Tab) (w : World) (e : Ending) (w' : World) : Prop := ∃ (O : Nat) (us : List Value), e = .returned (.slice (some ⟨O, 0, none⟩) t.trips.length t.trips.length) ∧ w.heap.size ≤ O ∧ w'.heap[O]? = some (.cells us.toArray 29 (0, 0)) ∧ us.length = t.trips.length ∧
  (∀ i, i < t.trips.length → ∃ A c, us[i]? = some (.slice A (rowOf (pairsL t t.trips.length) i).length c) ∧ NumsAt .i64 w' (.slice A (rowOf (pairsL t t.trips.length) i).length c) (rowOf (pairsL t t.trips.length) i) ∧ ∀ b o, A = some ⟨b, o, none⟩ → w.heap.size ≤ b ∧ b < w'.heap.size) ∧ Below w.heap.size w w'
set_option maxRecDepth 100000 in
set_option maxHeartbeats 6400000 in
theorem follows_any (t : Tab) (u z : Value) (w : World) (hT : TabAt w u z t) (ht : TabOk t) :
    Calls Tryz.prog 87 #[.agg #[.int .i64 t.places, .int .i64 t.lay, u, z]] w (GivesFollows t w) := by
  obtain ⟨i0, hi0, hz0, hz1, hz2⟩ := info_parts infoI
  obtain ⟨iR, hiR, hy0, hy1, hy2⟩ := info_parts infoR
  obtain ⟨A1, c1, rfl, _, _⟩ := hT.rows.form
  obtain ⟨A2, c2, rfl, _, _⟩ := hT.trips.form
  have HT := Lib.hid hT
  have Ht := Lib.hid ht
  have h12 := ht.trips
  clear hT ht
  refine (callsIn_wide (n := 3)).1 ?_
  refine callsIn_of_wp_marks Tryz.func87 rfl trivial ?_
  simp only [Tryz.ntmps87, List.size_toArray, List.length_cons, List.length_nil, Nat.reduceAdd, Nat.reduceSub, Array.replicate_succ, Array.replicate_zero, List.push_toArray, List.append_toArray, List.nil_append, List.cons_append]
  obtain ⟨N, hN⟩ : ∃ N, t.trips.length = N := ⟨_, rfl⟩
  have HN := Lib.hid hN
  rw [hN] at h12 ⊢
  have HTa := Lib.hid (HT.out)
  rw [hN] at HTa
  clear hN
  gi_wp2_with (gi_at_make; refine wpListIn_make_fullT _ rfl _ _ 45 rfl w.heap.size 29 iR _ 1 Tryz.underlying45 hiR hy0 hy1 _ _ _ _ N rfl rfl rfl rfl (by rw [hy2]; omega) (by simp [maxLen]; omega) (by simp) ?_; intro wm hownm hgm; have gm := (hgm.block w.heap.size (by simp) (by simp)).trans (heap_alloc_new w _); have gq := box_cells gm; have hlm := (Array.getElem?_eq_some_iff.1 gm).1; have Hgm := Lib.hid hgm; have Hownm := Lib.hid hownm; have Gm := Lib.hid gm; clear hgm hownm gm)
  have hsz1 : (w.alloc (.cells #[.int .i64 t.places, .int .i64 t.lay, .slice A1 t.empty.length c1, .slice A2 N c2] 58)).heap.size = w.heap.size + 1 := by simp
  have hbm : Below w.heap.size w wm := ((Below.refl _ _).alloc (Nat.le_refl _) _).grown Hgm.out (by simp) (by simp)
  have hO0 := block_own Hownm.out
  rw [made_slices, hsz1] at hO0
  have hOlt : w.heap.size + 1 < wm.heap.size := (Array.getElem?_eq_some_iff.1 hO0).1
  have HO0 := Lib.hid hO0
  clear Hownm Hgm gq hO0 hsz1
  refine ⟨trivial, ?_⟩
  refine (callsIn_wide.2 (pairs_any t _ _ _)).mono ?_
  rintro e W1 ⟨B, rfl, hBs, hB, hb1⟩
  obtain ⟨C, hC⟩ : ∃ C, wm.heap.size = C := ⟨_, rfl⟩
  have hC0 : W1.heap[C]? = some (.cells #[.slice (some ⟨w.heap.size + 1, 0, none⟩) N N] 45 (0, 0)) := by
    rw [← hC]
    exact (hb1.block _ (by simp)).trans (heap_alloc_new wm _)
  have hO1 := (hb1.block (w.heap.size + 1) (by simp; omega)).trans ((Below.heap_alloc wm _ _ hOlt).trans HO0.out)
  have hw1 : Below w.heap.size w W1 := (hbm.alloc (by omega) _).trans (hb1.mono (by simp; omega))
  simp only [World.size_alloc] at hBs
  rw [hC] at hOlt hBs ⊢
  have hBlt : B < W1.heap.size := (Array.getElem?_eq_some_iff.1 hB).1
  have hst : FolW N (w.heap.size + 1) C W1.heap.size [] (List.replicate N (.slice none 0 0)) W1 := by
    refine ⟨hC0, hO1, by simp, fun i hi => ⟨none, 0, ?_, ?_⟩, fun i j u v hu hv hne => ?_, by omega, by omega, by omega, Nat.le_refl _⟩
    · rw [List.getElem?_replicate, if_pos hi]; rfl
    · exact World.ownsRow_nil _ _ _ _
    · have := List.mem_of_getElem? hu
      rw [List.mem_replicate] at this
      rw [this.2]
      left; rfl
  have Hst := Lib.hid hst
  have HB := Lib.hid hB
  clear hC0 hO1 hst hB hb1 HO0 Gm hlm hC hbm
  gi_wp2_with fail
  obtain ⟨ps, hps⟩ : ∃ ps, ps = pairsL t t.trips.length := ⟨_, rfl⟩
  have hpl : ps.length ≤ 144 := by
    have h1 := pairsL_len t t.trips.length
    rw [← hps] at h1
    have h2 : t.trips.length ≤ 12 := by rw [HN.out]; exact h12
    exact Nat.le_trans h1 (Nat.mul_le_mul h2 h2)
  have hpm : ∀ i k, (i, k) ∈ ps → i < N ∧ k < N := fun i k h => by
    rw [hps, HN.out] at h
    exact ⟨(pairs_lt h).1, (pairs_lt h).2.1⟩
  have Hps := Lib.hid hps
  have Hpm := Lib.hid hpm
  have HBb := Lib.hid HB.out
  have hB2 := HB.out
  have HBN := Lib.hid (show W1.heap[B]? = some (.cells #[.int .i64 t.places, .int .i64 t.lay, .slice A1 t.empty.length c1, .slice A2 t.trips.length c2] 58 (0, 0)) by rw [HN.out]; exact hB2)
  clear hps hpm hB2
  refine wpIn_rangeFunc_ownH rfl (by omega) (gf := 193) (lb := #[.pointer (some ⟨B, 0, none⟩)]) rfl trivial (enters_of Tryz.func193 (by kernel_rfl) rfl)
    (pairs_stopsE 2 (by omega) B (fun k => k < w.heap.size ∨ k = B) t _ _ w HT.out Ht.out W1 (fun k hk => by have := hw1.size; rcases hk with h | rfl <;> omega) (fun k h => .inl h) (.inr rfl) (fun k hk => hw1.block k hk) HBN.out hw1.size ps Hps.out) KeepT.trans
    (fun W l o1 o2 hl ho hcells _ => ⟨fun j hj => World.putObj_heap_other (by have := hw1.size; rcases hj with h | rfl <;> omega), fun k xs fr hk => (World.putObj_heap_other (by rintro rfl; rw [ho] at hk; cases hk; simp [Obj.isCells] at hcells)).trans hk⟩) (Below.refl _ _) (fun _ => rfl)
    (fun pre W => FolSt N (w.heap.size + 1) C W1.heap.size (pre.map fun x => ps[x.1]) W ∧ Below w.heap.size w W)
    (fun _ _ _ => False) ?hI (fun _ _ _ _ _ hs _ _ => hs) ?h0
    (fun y a' _ => a' = { tmps := #[.agg #[.int .i64 t.places, .int .i64 t.lay, .slice A1 t.empty.length c1, .slice A2 N c2], .pointer (some ⟨w.heap.size, 0, none⟩), .slice none 0 0, .pointer (some ⟨C, 0, none⟩), .int .i64 ((ps[y.1].1 : Nat) : Int), .int .i64 ((ps[y.1].2 : Nat) : Int), .pointer (some ⟨w.heap.size, 3, none⟩), .slice A2 N c2, .int .i64 (N : Int), .slice (some ⟨w.heap.size + 1, 0, none⟩) N N, .agg #[.int .i64 t.places, .int .i64 t.lay, .slice A1 t.empty.length c1, .slice A2 N c2], .func (.func 193) #[] #[.pointer (some ⟨B, 0, none⟩)], .int .i64 ((ps[y.1].1 : Nat) : Int), .int .i64 ((ps[y.1].2 : Nat) : Int), undef, undef, undef, undef, undef, undef, undef, undef, undef, undef, undef], defers := [] })
    ?hAx ?assign ?body ?done ?stop
  case hI => exact OwnFrom.and (FolSt.own _) (ownFrom_below (Nat.le_refl _) (by have := hw1.size; omega))
  case h0 => exact ⟨⟨_, Hst.out⟩, hw1⟩
  case hAx =>
    rintro y a' _ X Y row h hg hr
    exact h
  case assign =>
    rintro id pre y W K hI hK
    simp only [prT]
    gi_wp2
    exact hK _ _ (KeepsFrom.refl _ _) (KeepT.refl _ _) hI rfl
  case body =>
    rintro id pre ⟨jx, hjx⟩ a' W hlW ⟨rc, hrec⟩ ⟨hst, hbw⟩ rfl hpre
    dsimp only
    have hqe : (pre ++ [(⟨jx, hjx⟩ : { j : Nat // j < ps.length })]).map (fun x => ps[x.1]) = pre.map (fun x => ps[x.1]) ++ [ps[jx]] := by simp
    have Hqe := Lib.hid hqe
    obtain ⟨⟨i, k⟩, hp0⟩ : ∃ p, ps[jx] = p := ⟨_, rfl⟩
    have hik := Hpm.out i k (by rw [← hp0]; exact List.getElem_mem hjx)
    rw [hp0] at Hqe ⊢
    clear hqe hp0
    obtain ⟨us, hW⟩ := hst.st
    obtain ⟨L, hL⟩ : ∃ L, pre.map (fun x => ps[x.1]) = L := ⟨_, rfl⟩
    have hLl : L.length ≤ 144 := by rw [← hL, List.length_map]; omega
    rw [hL] at Hqe hW
    obtain ⟨A, c, hu, hrow⟩ := hW.row i hik.1
    obtain ⟨n, hn⟩ : ∃ n, (rowOf L i).length = n := ⟨_, rfl⟩
    have hn144 : n ≤ 144 := by have := rowOf_len L i; omega
    rw [hn] at hu hrow
    have hiN := hik.1
    have hcC := box_cells hW.c0 0
    have hcO := box_cells hW.o0 i
    simp only [List.getElem?_toArray, List.getElem?_cons_zero] at hcC hcO
    rw [hu] at hcO
    have hMW := hW.hM
    have HW := Lib.hid hW
    have Hn := Lib.hid hn
    have Hu := Lib.hid hu
    have Hrow := Lib.hid hrow
    have hW1 := hw1.size
    clear hst hL hn hu hrow hW hik
    gi_wp2_with fail
    refine wpIn_region_noPanic ?_
    refine wpIn_region_pick [0, 1, 2, 3, 4, 5, 6] [7, 8, 9, 10] (fun j => j != 10) (fun w' => w'.cell? ⟨C, 0, none⟩ = some (.slice (some ⟨w.heap.size + 1, 0, none⟩) N N) ∧ w'.cell? ⟨w.heap.size + 1, i, none⟩ = some (.slice A n c)) (by kernel_rfl) (by kernel_rfl) (fun ⟨_, _, h⟩ => h) (fun _ _ _ _ _ h => h) ⟨hcC, hcO⟩ (fun hne => ?_)
    have m0 := fun z : Meets (fun w' : World => w'.cell? ⟨C, 0, none⟩ = some (.slice (some ⟨w.heap.size + 1, 0, none⟩) N N) ∧ w'.cell? ⟨w.heap.size + 1, i, none⟩ = some (.slice A n c)) => z.property
    have n0 := fun z => (m0 z).1
    have n1 := fun z => (m0 z).2
    clear m0
    simp only [pick, pickN, List.filterMap_cons, List.filterMap_nil, List.getElem?_cons_zero, List.getElem?_cons_succ, Option.map_some]
    repeat (change wpQuiet _ _ _ _ (_ :: _) _; go_big_quiet_step (fail))
    refine wpQuiet_nil ?_
    clear n0 n1 hne
    have hCW : C < W.heap.size := (Array.getElem?_eq_some_iff.1 HW.out.c0).1
    have hOW : w.heap.size + 1 < W.heap.size := (Array.getElem?_eq_some_iff.1 HW.out.o0).1
    refine wpSeqP_step (fun K hK => ?_)
    go_simp
    have ha : Below W.heap.size W.drew (W.drew.alloc (.cells #[.int .i64 (k : Int)] 3)) := (Below.refl W.heap.size W.drew).alloc (Nat.le_refl _) _
    refine hK.out _ (W.drew.alloc (.cells #[.int .i64 (k : Int)] 3)) (fun _ => ⟨(cell_below ha (w := W.drew) hcC), (cell_below ha (w := W.drew) hcO)⟩) ?_
    clear hK K
    refine wpSeqP_step (fun K hK => ?_)
    refine step_append_src _ rfl (.tmp 19) (.tmp 21) 29 rfl W1.heap.size 3 i0 _ 1 8 Tryz.underlying29 hi0 hz0 hz1 hz2 rfl (by omega) _ n _ rfl ((Hrow.out.drew).alloc _) (some ⟨W.drew.heap.size, 0, none⟩) 1 1 [.int .i64 (k : Int)] rfl (src_new W.drew [.int .i64 (k : Int)] 3 1 1 rfl) (by simp [Value.oneCell']) (by unfold maxLen; omega) (by omega) (by simp; omega) ?_
    intro A4 c4 x4 hown4 hg4 hat4
    have hlow := grow_lowR ((Hrow.out.drew).alloc (.cells #[.int .i64 (k : Int)] 3)) (by simp; omega) hg4
    have hcC4 : x4.cell? ⟨C, 0, none⟩ = some (.slice (some ⟨w.heap.size + 1, 0, none⟩) N N) := by
      rw [World.cell?_of_block (hlow C HW.out.hC)]
      exact cell_below ha (w := W.drew) hcC
    have hO4 : x4.heap[w.heap.size + 1]? = some (.cells us.toArray 29 (0, 0)) := (hlow _ HW.out.hO).trans ((ha.block _ hOW).trans HW.out.o0)
    have hcO4 : x4.cell? ⟨w.heap.size + 1, i, none⟩ = some (.slice A n c) := by
      rw [World.cell?_of_block (hlow _ HW.out.hO)]
      exact cell_below ha (w := W.drew) hcO
    refine hK.out _ _ (fun _ => ⟨hcC4, hcO4⟩) ?_
    clear hK K
    refine wpSeqP_step (fun K hK => ?_)
    go_simp
    refine hK.out _ _ (fun _ => ⟨hcC4, hcO4⟩) ?_
    clear hK K
    have hf4 := box_frozen hO4
    refine wpSeqP_step (fun K hK => ?_)
    go_simp
    refine hK.out _ _ (fun h => by cases h) ?_
    clear hK K
    refine wpSeqP_nil ?_
    refine NoPanic.normal ?_
    gi_wp2
    have hWd : FolW N (w.heap.size + 1) C W1.heap.size L us W.drew := HW.out.keep (Nat.le_refl _) (fun _ _ _ _ h => h)
    have hnext := hWd.next hiN Hn.out Hu.out hg4 hown4 hat4
    have hchg : Chg (fun k => k = w.heap.size + 1 ∨ W1.heap.size ≤ k) W (x4.setCell ⟨w.heap.size + 1, i, none⟩ (.slice A4 (n + 1) c4)) :=
      (((Chg.of_below (Below.refl _ _).drew).trans (Chg.of_below ha)).trans (Chg.grown ((Hrow.out.drew).alloc _) hg4 (fun k hk => .inr hk))).trans (Chg.set _ (.inl rfl) _)
    refine ⟨hchg.keepsOthers.from _, ⟨fun j hj => hchg.block j ?_ ?_, fun j xs fr hj => ?_⟩, ⟨us.set i (.slice A4 (n + 1) c4), ?_⟩, hchg.below hbw hbw.size (fun k hk => by rcases hk with h | h <;> omega)⟩
    · rcases hj with h | rfl <;> omega
    · rcases hj with h | rfl <;> (rintro (h2 | h2) <;> omega)
    · have hjlt := (Array.getElem?_eq_some_iff.1 hj).1
      have hj1 := (ha.block j hjlt).trans hj
      have hno := own_not ((Hrow.out.drew).alloc (.cells #[.int .i64 (k : Int)] 3)) hj1 (by decide)
      have hj2 := (hg4.block j (by simp; omega) hno).trans hj1
      refine blk_other0 hj2 (fun e => ?_)
      rw [e, HW.out.o0] at hj
      cases hj
    · rw [Hqe.out]
      exact hnext
  case done =>
    rintro D xs W hD rfl ⟨hst, hbw⟩ hK
    rw [ups_mapT ps ps.length (Nat.le_refl _), List.take_length] at hst
    obtain ⟨us, hW⟩ := hst.st
    have hcC := box_cells hW.c0 0
    have hM := hW.hM
    have hsz := hbw.size
    simp only [List.getElem?_toArray, List.getElem?_cons_zero] at hcC
    have HW := Lib.hid hW
    have HD := Lib.hid hK
    clear hW hst hK
    gi_wp2
    have hOpen : OpenMarks w.heap.size W [D] := ⟨by simp, fun d' hd' => by
      simp only [List.mem_singleton] at hd'
      subst hd'
      exact ⟨by have := hw1.size; omega, HD.out⟩⟩
    refine leaves_marks w.heap.size [D] W hOpen (fun W' hb' hk' => ?_)
    have hcells : ∀ (k : Nat) (xs : Array Value) (t : TypeId) (fr : Nat × Nat), W.heap[k]? = some (.cells xs t fr) → W'.heap[k]? = some (.cells xs t fr) := fun k xs t fr h => hk' k _ h rfl
    refine ⟨.slice (some ⟨w.heap.size + 1, 0, none⟩) N N, ?_, ⟨w.heap.size + 1, us, ?_, by omega, hcells _ _ _ _ HW.out.o0, ?_, fun i hi => ?_, hbw.trans hb'⟩⟩
    · simp [results, Tryz.results87, go_sem]
    · rw [HN.out]
    · rw [HN.out]; exact HW.out.len
    · rw [HN.out] at hi
      obtain ⟨A, c, h1, h2⟩ := HW.out.row i hi
      rw [← Hps.out]
      refine ⟨A, c, h1, nums_of_own (own_keepC h2 hcells), fun b o e => ?_⟩
      subst e
      have h3 := h2.lt b rfl
      have h4 := hw1.size
      have h5 := hb'.size
      exact ⟨by omega, by omega⟩
  case stop =>
    rintro D c pre W _ _ h _
    exact h.elim
end Go.Proofs.YtckgapeednokjaaGreat
