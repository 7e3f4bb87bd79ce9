import Derived.Test.YtmbkpfkkohpnkaaIt
import Derived.Test.YtmbkpfkkohpnkaaRo
set_option linter.unusedVariables false
set_option linter.unusedSimpArgs false
namespace Go.Proofs.Ytmbkpfkkohpnkaa
open Go Go.Proofs Go.RowKit Go.Shelf

attribute [local go_sem] Oper.semAt_some
section
variable {w w' : World} {v : Value}
theorem own_not {base : Nat} {e t : TypeId} {size n P : Nat} {xs : List Value} {cur : Array Value} {fr : Nat × Nat} (h : w.ownsRow base e size v n xs) (hP : w.heap[P]? = some (.cells cur t fr)) (hne : e ≠ t) : some P ≠ v.ownBlock := by
  rcases h.2 with ⟨rfl, _⟩ | ⟨g, cap, cur', rfl, _, hg, _⟩
  · simp [Value.ownBlock]
  · intro e1
    simp only [Value.ownBlock, Option.some.injEq] at e1
    subst e1
    rw [hg] at hP
    cases hP
    exact hne rfl
theorem blk_set {P o : Nat} {xs : Array Value} {t : TypeId} (h : w.heap[P]? = some (.cells xs t (0, 0))) (u : Value) : (w.setCell ⟨P, o, none⟩ u).heap[P]? = some (.cells (xs.setIfInBounds o u) t (0, 0)) := by
  obtain ⟨hlt, hk⟩ := Array.getElem?_eq_some_iff.1 h
  show (w.heap.modify P _)[P]? = _
  rw [Array.getElem?_eq_getElem (by rw [Array.size_modify]; exact hlt), Array.getElem_modify_self, hk]
  simp
theorem blk_other {P Q o : Nat} {xs : Array Value} {t : TypeId} (h : w.heap[P]? = some (.cells xs t (0, 0))) (hne : P ≠ Q) (u : Value) : (w.setCell ⟨Q, o, none⟩ u).heap[P]? = some (.cells xs t (0, 0)) :=
  (Below.heap_setCell w ⟨Q, o, none⟩ u P hne).trans h
theorem box_frozen {B : Nat} {xs : Array Value} {t : TypeId} (h : w.heap[B]? = some (.cells xs t (0, 0))) : ∀ o, w.frozen? ⟨B, o, none⟩ = false := fun o => by simp [World.frozen?, h]
/-- Where a row grows, a block of another type stays. -/
theorem own_grow {base : Nat} {e t : TypeId} {size n P : Nat} {xs : List Value} {cur : Array Value} {fr : Nat × Nat} {o : Obj} (h : w.ownsRow base e size v n xs) (hP : w.heap[P]? = some (.cells cur t fr)) (hne : e ≠ t) (hg : (w.alloc o).grownBy w' v.ownBlock) : w'.heap[P]? = some (.cells cur t fr) := by
  have hlt := (Array.getElem?_eq_some_iff.1 hP).1
  exact (hg.block P (by simp; omega) (own_not h hP hne)).trans ((Below.heap_alloc w o P hlt).trans hP)
end
theorem wpIn_name {F : Fence} {n : Nat} {P : Program} {c : Code} {Q : Exit → Act → World → Prop} {a : Act} {w : World} (G : World → Prop) (h : G w) (hk : ∀ W, G W → c.wpIn F n P Q a W) : c.wpIn F n P Q a w := hk w h
theorem src_newN {w : World} {xs : List Value} {t : TypeId} {m size N : Nat} (h : xs.length = m * size) (hN : w.heap.size = N) : Src (w.alloc (.cells xs.toArray t)) (some ⟨N, 0, none⟩) m size xs := by
  subst hN
  exact src_new w xs t m size h
theorem ups_map {α : Type} (ps : List α) : ∀ k, k ≤ ps.length → (ups ps.length k).map (fun x => ps[x.1]) = ps.take k
  | 0, _ => by simp [ups]
  | k + 1, hk => by rw [ups_succ (by omega), List.map_append, ups_map ps k (by omega), List.take_succ_eq_append_getElem (by omega)]; rfl
theorem flat_len3 (r : Rd) : ∀ ps : List (Int × Int), (ps.flatMap (offersAt r)).length = ps.length * 3
  | [] => rfl
  | p :: ps => by
    have := flat_len3 r ps
    simp only [List.flatMap_cons, List.length_append, this, List.length_cons, offersAt, List.length_nil]
    omega
/-! ### offers -/
/-- The memory of offers: its ride, its result, the row. -/
structure OffW (N M : Nat) (r : Rd) (v : Value) (n : Nat) (xs : List Value) (W : World) : Prop where
  b0 : W.heap[N]? = some (.cells #[.int .i64 r.day, .int .i64 r.minute, .int .i64 r.low, .int .i64 r.high] 70 (0, 0))
  b1 : W.heap[N + 1]? = some (.cells #[v] 34 (0, 0))
  o : W.ownsRow M 89 5 v n xs
  hM : N + 2 ≤ M
  hW : M ≤ W.heap.size
section
variable {N M : Nat} {r : Rd} {v : Value} {n : Nat} {xs : List Value} {W W' : World}
theorem OffW.keep (h : OffW N M r v n xs W) (hs : W.heap.size ≤ W'.heap.size) (hk : ∀ (k : Nat) (xs : Array Value) (t : TypeId) (fr : Nat × Nat), W.heap[k]? = some (.cells xs t fr) → W'.heap[k]? = some (.cells xs t fr)) : OffW N M r v n xs W' := by
  refine ⟨hk _ _ _ _ h.b0, hk _ _ _ _ h.b1, ⟨h.o.1, ?_⟩, h.hM, Nat.le_trans h.hW hs⟩
  rcases h.o.2 with h0 | ⟨g, cap, cur, h1, h2, h3, h4⟩
  · exact .inl h0
  · exact .inr ⟨g, cap, cur, h1, h2, hk _ _ _ _ h3, h4⟩
theorem OffW.below (h : OffW N M r v n xs W) (hb : Below W.heap.size W W') : OffW N M r v n xs W' :=
  h.keep hb.size fun k xs t fr hk => (hb.block k (Array.getElem?_eq_some_iff.1 hk).1).trans hk
theorem own_setT {n : Nat} {xs : List Value} {v : Value} (h : W.ownsRow M 89 5 v n xs) {p : Addr} (hp : p.block < M) (x : Value) : (W.setCell p x).ownsRow M 89 5 v n xs := by
  refine h.kept (row := some p.block) ⟨rfl, rfl, rfl, by simp [World.setCell], fun k _ hkP => Below.heap_setCell W p x k (fun e => hkP (by rw [e]))⟩ ?_
  cases hv : v.ownBlock with
  | none => left; rfl
  | some g =>
    right
    intro e
    have := (h.lt g hv).1
    simp only [Option.some.injEq] at e
    omega
theorem grow_lowT {o : Obj} {w2 : World} (ho : W.ownsRow M 89 5 v n xs) (hW : M ≤ W.heap.size) (hg : (W.alloc o).grownBy w2 v.ownBlock) : ∀ k, k < M → w2.heap[k]? = W.heap[k]? := fun k hk => by
  refine (hg.block k (by simp; omega) (fun e => ?_)).trans (Below.heap_alloc _ _ _ (by omega))
  have := (ho.lt k e.symm).1
  omega
theorem OffW.app (h : OffW N M r v n xs W) {o : Obj} {w2 : World} {v' : Value} {n' : Nat} {xs' : List Value} (hg : (W.alloc o).grownBy w2 v.ownBlock) (hown : w2.ownsRow M 89 5 v' n' xs') : OffW N M r v' n' xs' (w2.setCell ⟨N + 1, 0, none⟩ v') := by
  have hM := h.hM
  have hlow := grow_lowT h.o h.hW hg
  exact ⟨blk_other ((hlow _ (by omega)).trans h.b0) (by omega) _, blk_set ((hlow _ (by omega)).trans h.b1) _, own_setT hown (by simp only; omega) _, hM, by have h1 := hg.size; have h2 := h.hW; simp at h1; simp [World.setCell]; omega⟩
theorem chg_appT {R : Nat → Prop} {o : Obj} {w2 : World} (ho : W.ownsRow M 89 5 v n xs) (hg : (W.alloc o).grownBy w2 v.ownBlock) (hR : ∀ k, M ≤ k → R k) : Chg R W w2 :=
  (Chg.of_below ((Below.refl _ _).alloc (Nat.le_refl _) o)).trans (Chg.grown (ho.alloc o) hg hR)
end
/-- What offers has so far. -/
structure OffSt (N M : Nat) (r : Rd) (l : List (Int × Int)) (W : World) : Prop where
  st : ∃ v, OffW N M r v (l.length * 3) ((l.flatMap (offersAt r)).flatMap tkC) W
theorem OffSt.own {N M : Nat} {r : Rd} {α : Type} {B : Nat} (f : List α → List (Int × Int)) : OwnFrom B (fun (pre : List α) W => OffSt N M r (f pre) W) := fun s W W' row h hg hr => by
  obtain ⟨v, h⟩ := h.st
  refine ⟨v, h.keep hg.size fun k xs t fr hk => (hg.block k (Array.getElem?_eq_some_iff.1 hk).1 (fun e => ?_)).trans hk⟩
  obtain ⟨_, o, ho, hc⟩ := hr k e.symm
  rw [hk] at ho
  cases ho
  cases hc
/-- The tariff of a charging. -/
structure ChTar (w : World) (C : Nat) (t : Tar) (a b c : Value) : Prop where
  c0 : w.cell? ⟨C, 0, none⟩ = some (.int .i64 t.zones)
  c1 : w.cell? ⟨C, 1, none⟩ = some a
  c2 : w.cell? ⟨C, 2, none⟩ = some b
  c3 : w.cell? ⟨C, 3, none⟩ = some c
  c4 : w.cell? ⟨C, 4, none⟩ = some (.int .i64 t.window)
theorem ChTar.below {w w' : World} {C : Nat} {t : Tar} {a b c : Value} (h : ChTar w C t a b c) (hb : Below w.heap.size w w') : ChTar w' C t a b c :=
  ⟨cell_below hb h.c0, cell_below hb h.c1, cell_below hb h.c2, cell_below hb h.c3, cell_below hb h.c4⟩
set_option maxRecDepth 100000 in
set_option maxHeartbeats 4000000 in
theorem offers_any (C : Nat) (t : Tar) (a b c : Value) (r : Rd) (w : World) (hC : ChTar w C t a b c) (ht : tarB t = true) (hr : rideB t r = true) :
    Calls Try.prog 79 #[.pointer (some ⟨C, 0, none⟩), .agg #[.int .i64 r.day, .int .i64 r.minute, .int .i64 r.low, .int .i64 r.high]] w fun e w' => ∃ A k, e = .returned (.slice A (offersL t r).length k) ∧ w'.ownsRow w.heap.size 89 5 (.slice A (offersL t r).length k) (offersL t r).length ((offersL t r).flatMap tkC) ∧ Below w.heap.size w w' := by
  obtain ⟨i0, hi0, hz0, hz1, hz2⟩ := info_parts info_tks
  obtain ⟨_, _, z1, z2, z3⟩ := rideB_iff.1 hr
  have hz := tar_pos ht
  have hCl : C < w.heap.size := World.block_lt_of_cell? _ _ hC.c0
  refine (callsIn_wide (n := 3)).1 ?_
  refine callsIn_of_wp_marks Try.func79 rfl trivial ?_
  simp only [Try.ntmps79, List.size_toArray, List.length_cons, List.length_nil, Nat.reduceAdd, Nat.reduceSub, Array.replicate_succ, Array.replicate_zero, List.push_toArray, List.append_toArray, List.nil_append, List.cons_append]
  gi_wp2_with fail
  refine wpIn_name (fun W => Below w.heap.size w W ∧ w.heap.size + 1 < W.heap.size ∧ W.heap[w.heap.size]? = some (.cells #[.int .i64 r.day, .int .i64 r.minute, .int .i64 r.low, .int .i64 r.high] 70 (0, 0)) ∧ W.heap[w.heap.size + 1]? = some (.cells #[.slice none 0 0] 34 (0, 0))) ⟨two_below w _ _, by simp, (Below.heap_alloc _ _ _ (by simp)).trans (heap_alloc_new w _), heap_alloc2_new w _ _⟩ (fun W0 hF => ?_)
  obtain ⟨hb0, hs0, hA0, hB0⟩ := hF
  have hC0 := hC.below hb0
  have hq := box_cells hA0
  have hd0 : Below W0.heap.size W0 W0.drew := (Below.refl _ _).drew
  refine wpIn_wide.2 ?_
  refine wp_region_noPanic ?_
  refine wp_region_pick [0, 1, 2, 3, 4, 5, 6, 7] [8] (fun _ => true) (fun w' => Below W0.heap.size W0 w') (by kernel_rfl) (by kernel_rfl) (fun _ _ _ _ _ h => h) hd0 (fun hne => ?_)
  have n0 := fun x : Meets (fun w' => Below W0.heap.size W0 w') => cell_below x.property hC0.c0
  have n1 := fun x : Meets (fun w' => Below W0.heap.size W0 w') => cell_below x.property hC0.c1
  have n2 := fun x : Meets (fun w' => Below W0.heap.size W0 w') => cell_below x.property hC0.c2
  have n3 := fun x : Meets (fun w' => Below W0.heap.size W0 w') => cell_below x.property hC0.c3
  have n4 := fun x : Meets (fun w' => Below W0.heap.size W0 w') => cell_below x.property hC0.c4
  have n5 := fun x : Meets (fun w' => Below W0.heap.size W0 w') => cell_below x.property (hq 2)
  have n6 := fun x : Meets (fun w' => Below W0.heap.size W0 w') => cell_below x.property (hq 3)
  simp only [pick, pickN, List.filterMap_cons, List.filterMap_nil, List.getElem?_cons_zero, List.getElem?_cons_succ, Option.map_some]
  repeat (change wpQuiet _ _ _ _ (_ :: _) _; go_big_quiet_step (fail))
  refine wpQuiet_nil ?_
  clear n0 n1 n2 n3 n4 n5 n6 hne hq hC0
  refine wpSeqP_step (fun K hK => ?_)
  go_simp
  refine (wider_any t a b c r.low r.high _).mono ?_
  rintro e W1 ⟨L, H, T, ⟨⟨hL, hH, hT⟩, hL0, hH0, hT0⟩, rfl, cl, ch, ct, hb1⟩
  have hb01 : Below W0.heap.size W0 W1 := hd0.trans (hb1.mono hd0.size)
  refine hK.out _ _ (fun _ => hb01) ?_
  clear hK K
  refine wpSeqP_nil ?_
  refine NoPanic.normal ?_
  have hs1 : W0.heap.size ≤ W1.heap.size := hb01.size
  have e1 : W0.drew.heap.size = W0.heap.size := rfl
  rw [e1] at hL0 hH0 hT0
  have hw1 : Below w.heap.size w W1 := hb0.trans (hb01.mono hb0.size)
  have hst : OffSt w.heap.size W1.heap.size r [] W1 := ⟨.slice none 0 0, (hb01.block _ (by omega)).trans hA0, (hb01.block _ (by omega)).trans hB0, World.ownsRow_nil _ _ _ _, by omega, Nat.le_refl _⟩
  clear hA0 hB0
  gi_wp2_with fail
  obtain ⟨ps, hps⟩ : ∃ ps, ps = widerL t r.low r.high := ⟨_, rfl⟩
  have hoff : offersL t r = ps.flatMap (offersAt r) := by rw [hps]; rfl
  have hpl : ps.length ≤ 16 := by
    rw [hps, wider_len]
    have h1 : (r.low + 1).toNat ≤ 4 := by omega
    have h2 : (t.zones - r.high).toNat ≤ 4 := by omega
    exact Nat.le_trans (Nat.mul_le_mul h1 h2) (by omega)
  have Hoff := Lib.hid hoff
  have hb1s := hb1.size
  have Hps := Lib.hid hps
  clear hps hoff
  refine wpIn_rangeFunc_ownH rfl (by omega) (gf := 105) (lb := #[.pointer (some ⟨L, 0, none⟩), .pointer (some ⟨H, 0, none⟩), .pointer (some ⟨T, 0, none⟩)]) rfl trivial (enters_of Try.func105 (by kernel_rfl) rfl)
    (wider_stops 2 (by omega) L H T (fun k => k = L ∨ k = H ∨ k = T) t r.low r.high ⟨z1, by omega⟩ ⟨by omega, by omega, by omega⟩ ps Hps.out W1 (fun k hk => by rcases hk with rfl | rfl | rfl <;> assumption) ⟨.inl rfl, .inr (.inl rfl), .inr (.inr rfl), cl, ch, ct⟩) Keep.trans
    (fun W l o1 o2 hl ho _ _ j hj => World.putObj_heap_other (by rcases hj with rfl | rfl | rfl <;> omega)) (Below.refl _ _) (fun _ => rfl)
    (fun pre W => OffSt w.heap.size W1.heap.size r (pre.map fun x => ps[x.1]) W ∧ Below w.heap.size w W)
    (fun _ _ _ => False) ?hI (fun _ _ _ _ _ hs _ _ => hs) ?h0
    (fun y a' _ => a' = { tmps := #[.pointer (some ⟨C, 0, none⟩), .agg #[.int .i64 r.day, .int .i64 r.minute, .int .i64 r.low, .int .i64 r.high], undef, .pointer (some ⟨w.heap.size, 0, none⟩), .pointer (some ⟨w.heap.size + 1, 0, none⟩), .int .i64 ps[y.1].1, .int .i64 ps[y.1].2, .pointer (some ⟨C, 0, none⟩), .pointer (some ⟨C, 0, none⟩), .pointer (some ⟨C, 0, none⟩), .agg #[.int .i64 t.zones, a, b, c, .int .i64 t.window], .pointer (some ⟨w.heap.size, 2, none⟩), .int .i64 r.low, .pointer (some ⟨w.heap.size, 3, none⟩), .int .i64 r.high, .func (.func 105) #[] #[.pointer (some ⟨L, 0, none⟩), .pointer (some ⟨H, 0, none⟩), .pointer (some ⟨T, 0, none⟩)], .int .i64 ps[y.1].1, .int .i64 ps[y.1].2, undef, undef, undef, undef, undef, undef, undef, undef, undef, undef, undef, undef, undef, undef, undef, undef, undef, undef, undef], defers := [] })
    ?hAx ?assign ?body ?done ?stop
  case hI => exact OwnFrom.and (OffSt.own _) (ownFrom_below (Nat.le_refl _) (by omega))
  case h0 => exact ⟨hst, hw1⟩
  case hAx =>
    rintro y a' _ X Y row h hg hr
    exact h
  case assign =>
    rintro id pre y W K hI hK
    simp only [prE]
    gi_wp2
    exact hK _ _ (KeepsFrom.refl _ _) (Keep.refl _ _) hI rfl
  case body =>
    rintro id pre ⟨jx, hjx⟩ a' W hlW ⟨rc, hrec⟩ ⟨hst, hbw⟩ rfl hpre
    dsimp only
    have hqe : (pre ++ [(⟨jx, hjx⟩ : { j : Nat // j < ps.length })]).map (fun x => ps[x.1]) = pre.map (fun x => ps[x.1]) ++ [ps[jx]] := by simp
    have Hqe := Lib.hid hqe
    clear hqe
    obtain ⟨p, hp0⟩ : ∃ p, ps[jx] = p := ⟨_, rfl⟩
    rw [hp0] at Hqe ⊢
    obtain ⟨v, hW⟩ := hst.st
    have hql : (pre.map (fun x => ps[x.1])).length ≤ 16 := by simp; omega
    have hqd : ∃ qs, pre.map (fun x => ps[x.1]) = qs := ⟨_, rfl⟩
    obtain ⟨qs, hqs⟩ := hqd
    rw [hqs] at Hqe hW hql
    obtain ⟨A0, c0', rfl⟩ := own_form hW.o
    have hM := hW.hM
    have hMW := hW.hW
    have k0 := box_cells hW.b0 0
    have k1 := box_cells hW.b0 1
    have k2 := box_cells hW.b1 0
    simp only [List.getElem?_toArray, List.getElem?_cons_zero, List.getElem?_cons_succ] at k0 k1 k2
    have HW := Lib.hid hW
    clear hW hst hqs
    gi_wp2_with (refine wpListIn_append_src _ rfl (.tmp 18) (.tmp 34) 34 rfl W1.heap.size 89 i0 _ 5 40 Try.underlying34 hi0 hz0 hz1 hz2 rfl (by omega) _ (qs.length * 3) _ rfl (HW.out.o.alloc _) (some ⟨W.heap.size, 0, none⟩) 3 3 [.int .u8 0, .int .i64 p.1, .int .i64 p.2, .int .i64 r.day, .int .i64 r.minute, .int .u8 1, .int .i64 p.1, .int .i64 p.2, .int .i64 r.day, .int .i64 0, .int .u8 2, .int .i64 p.1, .int .i64 p.2, .int .i64 0, .int .i64 0] rfl (src_newN (xs := [.int .u8 0, .int .i64 p.1, .int .i64 p.2, .int .i64 r.day, .int .i64 r.minute, .int .u8 1, .int .i64 p.1, .int .i64 p.2, .int .i64 r.day, .int .i64 0, .int .u8 2, .int .i64 p.1, .int .i64 p.2, .int .i64 0, .int .i64 0]) rfl rfl) (by simp [Value.oneCell']) (by unfold maxLen; omega) (by omega) (by simp; omega) ?_; intro A' c' w2 hown2 hg2 hat2; have hlow := (grow_lowT HW.out.o HW.out.hW hg2 _ (by have := HW.out.hM; omega)).trans HW.out.b1; have g30 := box_cells hlow 0; have f30 := box_frozen hlow 0; simp only [List.getElem?_toArray, List.getElem?_cons_zero, List.getElem?_cons_succ] at g30; have Hown2 := Lib.hid hown2; have Hg2 := Lib.hid hg2; clear hown2 hg2 hat2 hlow)
    have happ := HW.out.app Hg2.out Hown2.out
    have hchg : Chg (fun k => k = w.heap.size + 1 ∨ W1.heap.size ≤ k) W (w2.setCell ⟨w.heap.size + 1, 0, none⟩ (.slice A' (qs.length * 3 + 3) c')) := (chg_appT HW.out.o Hg2.out (fun k hk => .inr hk)).trans (Chg.set _ (.inl rfl) _)
    refine ⟨hchg.keepsOthers.from _, hchg.keep (fun k hk => by rcases hk with rfl | rfl | rfl <;> (refine ⟨by omega, ?_⟩; rintro (h | h) <;> omega)), ⟨⟨.slice A' (qs.length * 3 + 3) c', ?_⟩⟩, hchg.below hbw hbw.size (fun k hk => by rcases hk with h | h <;> omega)⟩
    rw [Hqe.out]
    have e1 : (qs ++ [p]).length * 3 = qs.length * 3 + 3 := by simp; omega
    have e2 : ((qs ++ [p]).flatMap (offersAt r)).flatMap tkC = (qs.flatMap (offersAt r)).flatMap tkC ++ [.int .u8 0, .int .i64 p.1, .int .i64 p.2, .int .i64 r.day, .int .i64 r.minute, .int .u8 1, .int .i64 p.1, .int .i64 p.2, .int .i64 r.day, .int .i64 0, .int .u8 2, .int .i64 p.1, .int .i64 p.2, .int .i64 0, .int .i64 0] := by
      simp [offersAt, tkC]
    rw [e1, e2]
    exact happ
  case done =>
    rintro D xs W hD rfl ⟨hst, hbw⟩ hK
    rw [ups_map ps ps.length (Nat.le_refl _), List.take_length] at hst
    obtain ⟨v, hW⟩ := hst.st
    rw [← Hoff.out] at hW
    have hn : ps.length * 3 = (offersL t r).length := by
      rw [Hoff.out]
      have := flat_len3 r ps
      omega
    rw [hn] at hW
    obtain ⟨A0, c0', rfl⟩ := own_form hW.o
    have hM := hW.hM
    have k2 := box_cells hW.b1 0
    have f2 := box_frozen hW.b1 0
    simp only [List.getElem?_toArray, List.getElem?_cons_zero, List.getElem?_cons_succ] at k2
    have HW := Lib.hid hW
    have HD := Lib.hid hK
    clear hW hst hK hn
    gi_wp2
    have q1 := blk_set (o := 0) HW.out.b1 (.slice A0 (offersL t r).length c0')
    have q2 := own_setT HW.out.o (p := ⟨w.heap.size + 1, 0, none⟩) (by simp only; omega) (.slice A0 (offersL t r).length c0')
    have q5 := KeepsOthers.setCell W ⟨w.heap.size + 1, 0, none⟩ (.slice A0 (offersL t r).length c0')
    have q6 := hbw.setCell (p := ⟨w.heap.size + 1, 0, none⟩) (by simp only; omega) (.slice A0 (offersL t r).length c0')
    have hD8 := q5.same _ _ HD.out rfl
    clear k2 f2
    generalize W.setCell ⟨w.heap.size + 1, 0, none⟩ (.slice A0 (offersL t r).length c0') = W8 at *
    have hOpen : OpenMarks w.heap.size W8 [D] := ⟨by simp, fun d' hd' => by
      simp only [List.mem_singleton] at hd'
      subst hd'
      exact ⟨by omega, hD8⟩⟩
    refine leaves_marks w.heap.size [D] W8 hOpen (fun W' hb' hk' => ?_)
    have r4 := hk' _ _ q1 rfl
    have own : W'.ownsRow W1.heap.size 89 5 (.slice A0 (offersL t r).length c0') (offersL t r).length ((offersL t r).flatMap tkC) := by
      refine ⟨q2.1, ?_⟩
      rcases q2.2 with h0 | ⟨g, cap, cur, h1, h2, h3, h4⟩
      · exact .inl h0
      · exact .inr ⟨g, cap, cur, h1, h2, hk' _ _ h3 rfl, h4⟩
    have z0 := box_cells r4 0
    simp only [List.setIfInBounds_toArray, List.set_cons_succ, List.set_cons_zero, List.getElem?_toArray, List.getElem?_cons_zero, List.getElem?_cons_succ] at z0
    refine ⟨.slice A0 (offersL t r).length c0', ?_, ⟨A0, c0', rfl, own_mono own (by omega), q6.trans hb'⟩⟩
    simp [results, Try.results79, go_sem, z0]
  case stop =>
    rintro D c pre W _ _ h _
    exact h.elim
end Go.Proofs.Ytmbkpfkkohpnkaa
