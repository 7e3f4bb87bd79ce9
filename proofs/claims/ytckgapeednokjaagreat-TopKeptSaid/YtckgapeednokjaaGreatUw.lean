import Derived.Test.YtckgapeednokjaaGreatUv
set_option linter.unusedVariables false
set_option linter.unusedSimpArgs false
namespace Go.Proofs.YtckgapeednokjaaGreat
open Go Go.Proofs Go.RowKit Go.Shelf

attribute [local go_sem] Oper.semAt_some
/-! ### sheet.Lacks -/
def lkC5 (x : Lk) : List Value := [.int .i64 x.mac, .int .i64 x.fr, .int .i64 x.to, .int .i64 x.sales, .int .i64 x.coins]
def lkCells (l : List Lk) : List Value := l.flatMap lkC5
theorem lkCells_snoc (l : List Lk) (r : Lk) : lkCells (l ++ [r]) = lkCells l ++ lkC5 r := by simp [lkCells]
def lkOfS (s : Rc × List Rc × Rc) : Lk := lackOf s.1 s.2.1 s.2.2
def lacksL (l : List (Rc × List Rc × Rc)) : List Lk := (l.map lkOfS).filter fun x => decide (0 < x.sales)
theorem lacksL_snoc (l : List (Rc × List Rc × Rc)) (s : Rc × List Rc × Rc) : lacksL (l ++ [s]) = lacksL l ++ if 0 < (lkOfS s).sales then [lkOfS s] else [] := by
  unfold lacksL
  rw [List.map_append, List.filter_append]
  by_cases h : 0 < (lkOfS s).sales <;> simp [h]
theorem lacksL_len (l : List (Rc × List Rc × Rc)) : (lacksL l).length ≤ l.length := by
  have := List.length_filter_le (fun x : Lk => decide (0 < x.sales)) (l.map lkOfS)
  rw [List.length_map] at this
  exact this
/-- A stretch of a log is of its records. -/
structure StrOk (x : List Rc) (s : Rc × List Rc × Rc) : Prop where
  fr : (∃ m, s.1 = zeroR m) ∨ s.1 ∈ x
  bt : ∀ r ∈ s.2.1, r ∈ x
  len : s.2.1.length ≤ x.length
  tr : s.2.2 ∈ x ∧ s.2.2.kind = 2
theorem str_ok (x : List Rc) : ∀ (l pre : List Rc) (pm : Option Int) (fr : Rc) (bt : List Rc), pre ++ l = x → ((∃ m, fr = zeroR m) ∨ fr ∈ x) → (∀ r ∈ bt, r ∈ x) → bt.length ≤ pre.length → ∀ s ∈ strL pm fr bt l, StrOk x s
  | [], _, _, _, _, _, _, _, _, s, hs => by simp [strL] at hs
  | r :: l, pre, pm, fr, bt, hx, hf, hb, hl, s, hs => by
    have hr : r ∈ x := by rw [← hx]; simp
    have hx2 : (pre ++ [r]) ++ l = x := by rw [← hx]; simp
    have hfz : ((∃ m, (if pm = some r.mac then fr else zeroR r.mac) = zeroR m) ∨ (if pm = some r.mac then fr else zeroR r.mac) ∈ x) := by
      split
      · exact hf
      · exact .inl ⟨_, rfl⟩
    have hbz : ∀ q ∈ (if pm = some r.mac then bt else []), q ∈ x := by
      split
      · exact hb
      · simp
    have hlz : (if pm = some r.mac then bt else []).length ≤ pre.length := by
      split
      · exact hl
      · simp
    have hpl : pre.length ≤ x.length := by rw [← hx]; simp
    by_cases k2 : r.kind = 2
    · rw [strL_close k2] at hs
      rcases List.mem_cons.1 hs with rfl | hs
      · exact ⟨hfz, hbz, Nat.le_trans hlz hpl, hr, k2⟩
      · exact str_ok x l (pre ++ [r]) _ r [] hx2 (.inr hr) (by simp) (by simp) s hs
    · rw [strL_other k2] at hs
      refine str_ok x l (pre ++ [r]) _ _ _ hx2 hfz (fun q hq => ?_) (by simp; omega) s hs
      rcases List.mem_append.1 hq with h | h
      · exact hbz q h
      · rw [List.mem_singleton.1 h]; exact hr
theorem strL_len : ∀ (l : List Rc) (pm : Option Int) (fr : Rc) (bt : List Rc), (strL pm fr bt l).length ≤ l.length
  | [], _, _, _ => by simp [strL]
  | r :: l, pm, fr, bt => by
    by_cases k2 : r.kind = 2
    · rw [strL_close k2]; have := strL_len l (some r.mac) r []; simp only [List.length_cons]; omega
    · rw [strL_other k2]; have := strL_len l (some r.mac) (if pm = some r.mac then fr else zeroR r.mac) ((if pm = some r.mac then bt else []) ++ [r]); simp only [List.length_cons]; omega
theorem own_turned {B base : Nat} {T : TypeId → Prop} {X Y : World} {e : TypeId} {size n : Nat} {v : Value} {xs : List Value} (ho : X.ownsRow base e size v n xs) (ht : Turns B T X Y) (hne : ¬ T e) : Y.ownsRow base e size v n xs := by
  refine ⟨ho.1, ?_⟩
  rcases ho.2 with h | ⟨g, cap, cur, h1, h2, h3, h4⟩
  · exact .inl h
  · exact .inr ⟨g, cap, cur, h1, h2, ht.blk h3 (.inr hne), h4⟩
theorem below_putO {n0 : Nat} {A W : World} {l : Nat} {o : Obj} (o' : Obj) (h : Below n0 A W) (hs : n0 ≤ W.heap.size) (hl : n0 ≤ l) (ho : W.heap[l]? = some o) : Below n0 A (W.putObj l o') :=
  h.grown (grownBy_putObj' W l o') hs (fun k e => by cases e; exact hl)
theorem cell_put {W : World} {l : Nat} {o : Obj} {p : Addr} {v : Value} (o' : Obj) (hp : W.cell? p = some v) (ho : W.heap[l]? = some o) (hc : o.isCells = false) : (W.putObj l o').cell? p = some v := by
  obtain ⟨q, hq, hqc⟩ := cells_of_cell hp
  rw [← hp]
  refine World.cell?_of_block (World.putObj_heap_other (fun e => ?_))
  rw [e, ho] at hq
  cases hq
  rw [hc] at hqc
  cases hqc
theorem recs_put {W : World} {l : Nat} {o : Obj} {v : Value} {x : List Rc} (o' : Obj) (h : RecsAt W v x) (ho : W.heap[l]? = some o) (hc : o.isCells = false) : RecsAt (W.putObj l o') v x := by
  obtain ⟨A, c, rfl, h1, h2, h3⟩ := h
  refine ⟨A, c, rfl, h1, h2, fun hp => ?_⟩
  obtain ⟨b, q, e, hcs⟩ := h3 hp
  refine ⟨b, q, e, fun k r hr => ?_⟩
  obtain ⟨c0, c1, c2, c3, c4, c5⟩ := hcs k r hr
  exact ⟨cell_put o' c0 ho hc, cell_put o' c1 ho hc, cell_put o' c2 ho hc, cell_put o' c3 ho hc, cell_put o' c4 ho hc, cell_put o' c5 ho hc⟩
def TL (t : TypeId) : Prop := t = 40 ∨ t = 33
theorem sp_all {x : List Rc} {xs : List Sx} (h : SP x xs) (hn : ∀ y, ¬ SP x (xs ++ [y])) : xs.map gh = strL none (zeroR 0) [] x := by
  obtain ⟨rest, hr⟩ := h
  cases rest with
  | nil => rw [← hr, List.append_nil]
  | cons z t =>
    refine absurd ⟨t, ?_⟩ (hn ⟨z.1, z.2.2, z.2.1, none, 0⟩)
    rw [← hr, List.map_append, List.append_assoc]
    rfl
theorem put_cells {W : World} {l k : Nat} {o : Obj} {cur : Array Value} {t : TypeId} {fr : Nat × Nat} (o' : Obj) (hk : W.heap[k]? = some (.cells cur t fr)) (ho : W.heap[l]? = some o) (hc : o.isCells = false) : (W.putObj l o').heap[k]? = some (.cells cur t fr) := by
  rw [World.putObj_heap_other (fun e => ?_)]
  · exact hk
  · subst e
    rw [hk] at ho
    cases ho
    cases hc
theorem own_cells_kept {base : Nat} {X Y : World} {e : TypeId} {size n : Nat} {v : Value} {xs : List Value} (ho : X.ownsRow base e size v n xs) (hk : ∀ (k : Nat) (o : Obj), X.heap[k]? = some o → o.isCells = true → Y.heap[k]? = some o) : Y.ownsRow base e size v n xs := by
  refine ⟨ho.1, ?_⟩
  rcases ho.2 with h | ⟨g, cap, cur, h1, h2, h3, h4⟩
  · exact .inl h
  · exact .inr ⟨g, cap, cur, h1, h2, hk _ _ h3 rfl, h4⟩
theorem rc_bd {r : Rc} (h : RcOk r) : (0 ≤ r.seq ∧ r.seq ≤ 9999) ∧ (0 ≤ r.a ∧ r.a ≤ 10000000) ∧ (0 ≤ r.b ∧ r.b ≤ 10000000) := by
  have h1 := h.seq
  rcases h.kind with h2 | h2 | h2 <;> omega
theorem fr_bd {x : List Rc} (hok : ∀ r ∈ x, RcOk r) {r : Rc} (h : (∃ m, r = zeroR m) ∨ r ∈ x) : (0 ≤ r.seq ∧ r.seq ≤ 9999) ∧ (0 ≤ r.a ∧ r.a ≤ 10000000) ∧ (0 ≤ r.b ∧ r.b ≤ 10000000) := by
  rcases h with ⟨m, rfl⟩ | h
  · simp [zeroR]
  · exact rc_bd (hok r h)
def GivesLacks (l : List Lk) (w : World) (e : Ending) (w' : World) : Prop := ∃ (A : Option Addr) (c : Nat), e = .returned (.tuple #[.slice A l.length c, .int .i64 0]) ∧ w'.ownsRow w.heap.size 40 5 (.slice A l.length c) l.length (lkCells l) ∧ Below w.heap.size w w'
theorem infoLk : (Tryz.prog.info? 40).map (fun i => (i.zero, i.size, i.bytes)) = some (some (.agg #[.int .i64 0, .int .i64 0, .int .i64 0, .int .i64 0, .int .i64 0]), 5, 40) := by kernel_rfl
set_option maxRecDepth 100000 in
set_option maxHeartbeats 6400000 in
theorem Lacks_ok (u : Value) (x : List Rc) (w : World) (hu : RecsAt w u x) (h60 : x.length ≤ 60) (hok : ∀ r ∈ x, RcOk r) (hpw : x.Pairwise Rlt) (hcan : ∀ s ∈ strL none (zeroR 0) [] x, canOf s.1 s.2.1 s.2.2) : Calls Tryz.prog 9 #[u] w (GivesLacks (lacksL (strL none (zeroR 0) [] x)) w) := by
  obtain ⟨i0, hi0, hz0, hz1, hz2⟩ := info_parts infoLk
  obtain ⟨A0, c0, rfl, _, _⟩ := hu.form
  obtain ⟨N, hN⟩ : ∃ N, x.length = N := ⟨_, rfl⟩
  have Hm := Lib.hid (fun (b c : Nat) (w' : World) (hb : Below w.heap.size w w') (hc : w'.cell? ⟨b, 0, none⟩ = some (.slice A0 x.length c0)) (h1 : 1 ≤ c ∧ c ≤ maxLen) => merged_ok b 0 c _ x w' hc (hu.below hb) h1 h60 hok hpw)
  rw [hN] at Hm h60 ⊢
  have HN := Lib.hid hN
  have Hok := Lib.hid hok
  have Hcan := Lib.hid hcan
  clear hu hok hpw hcan hN
  refine (callsIn_wide (n := 3)).1 ?_
  refine callsIn_of_wp_marks Tryz.func9 rfl trivial ?_
  simp only [Tryz.ntmps9, List.size_toArray, List.length_cons, List.length_nil, Nat.reduceAdd, Nat.reduceSub, Array.replicate_succ, Array.replicate_zero, List.push_toArray, List.append_toArray, List.nil_append, List.cons_append]
  gi_upto_region 1 with (fail)
  refine wpIn_name (fun V => Below w.heap.size w V ∧ V.heap[w.heap.size]? = some (.cells #[.slice none 0 0] 33 (0, 0)) ∧ V.heap[w.heap.size + 1]? = some (.cells #[.int .i64 0] 34 (0, 0))) ⟨two_belowT w _ _, (Below.heap_alloc _ _ _ (by simp)).trans (heap_alloc_new w _), heap_alloc2_new w _ _⟩ (fun V hV => ?_)
  obtain ⟨hbV, hR2, hR3⟩ := hV
  have hsV : w.heap.size + 1 < V.heap.size := (Array.getElem?_eq_some_iff.1 hR3).1
  have hsV2 : w.heap.size < V.heap.size := (Array.getElem?_eq_some_iff.1 hR2).1
  obtain ⟨R2, hR2e⟩ : ∃ R2, w.heap.size = R2 := ⟨_, rfl⟩
  obtain ⟨R3, hR3e⟩ : ∃ R3, R2 + 1 = R3 := ⟨_, rfl⟩
  rw [hR2e] at hR2 hR3 hsV hsV2 ⊢
  rw [hR3e] at hR3 hsV ⊢
  have HR2e := Lib.hid hR2e
  have HR3e := Lib.hid hR3e
  have hca : Below V.heap.size V (V.alloc (.cells #[.slice A0 N c0] 37)) := (Below.refl _ _).alloc (Nat.le_refl _) _
  have hcl := box_cells (heap_alloc_new V (.cells #[.slice A0 N c0] 37 (0, 0))) 0
  simp only [List.getElem?_toArray, List.getElem?_cons_zero] at hcl
  have Hca := Lib.hid hca
  have Hcl := Lib.hid hcl
  clear hR2e hR3e hca hcl
  gi_wp2_with fail
  refine ⟨trivial, ?_⟩
  refine (callsIn_wide.2 (Hm.out _ 1 _ (hbV.trans (Hca.out.mono hbV.size)) Hcl.out ⟨by omega, by simp [maxLen]⟩)).mono ?_
  rintro e w1 ⟨Am, cm, rfl, hrec, hb1⟩
  have hbV1 : Below V.heap.size V w1 := Hca.out.trans (hb1.mono Hca.out.size)
  rw [HN.out] at hrec ⊢
  have Hrec := Lib.hid hrec
  have Hb1 := Lib.hid (hbV.trans (hbV1.mono hbV.size))
  have K2 := Lib.hid ((hbV1.block _ hsV2).trans hR2)
  have K3 := Lib.hid ((hbV1.block _ hsV).trans hR3)
  have hs1 : R3 < w1.heap.size := Nat.lt_of_lt_of_le hsV hbV1.size
  clear hrec hb1 hbV1 hbV hR2 hR3 hsV Hcl Hca Hm
  gi_upto_region 5 with (fail)
  refine wpIn_name (fun V2 => Below w1.heap.size w1 V2 ∧ V2.heap[w1.heap.size]? = some (.cells #[.slice none 0 0] 33 (0, 0))) ⟨(Below.refl _ _).alloc (Nat.le_refl _) _, heap_alloc_new w1 _⟩ (fun V2 hV2 => ?_)
  obtain ⟨hb2, hO2⟩ := hV2
  obtain ⟨OB, hOB⟩ : ∃ OB, w1.heap.size = OB := ⟨_, rfl⟩
  rw [hOB] at hO2 ⊢
  gi_wp2_with fail
  refine ⟨trivial, ?_⟩
  refine (callsIn_wide.2 (stretches_any Am N cm V2)).mono ?_
  rintro e w3 ⟨LB, rfl, hLB, hLB0, hb3⟩
  obtain ⟨VB, hVB⟩ : ∃ VB, V.heap.size = VB := ⟨_, rfl⟩
  rw [hVB]
  have hb23 : Below w1.heap.size w1 w3 := hb2.trans (hb3.mono hb2.size)
  have hR2B : R2 < OB := by have := HR3e.out; omega
  have hR3B : R3 < OB := by omega
  have hwO : w.heap.size ≤ OB := by have := HR2e.out; omega
  have hsO : OB < w3.heap.size := Nat.lt_of_lt_of_le (Array.getElem?_eq_some_iff.1 hO2).1 hb3.size
  have J2 := Lib.hid ((hb23.block _ (by omega)).trans K2.out)
  have J3 := Lib.hid ((hb23.block _ (by omega)).trans K3.out)
  have JO := Lib.hid ((hb3.block _ (Array.getElem?_eq_some_iff.1 hO2).1).trans hO2)
  have Hb3 := Lib.hid (Hb1.out.trans (hb23.mono Hb1.out.size))
  have Hb23 := Lib.hid hb23
  have HLB := Lib.hid hLB
  obtain ⟨SZ, hSZ⟩ : ∃ SZ, w3.heap.size = SZ := ⟨_, rfl⟩
  rw [hSZ] at hsO
  have HSZ := Lib.hid hSZ
  have HOB := Lib.hid hOB
  clear hLB hb3 hb23 hb2 hO2 hVB hSZ hOB hLB0 K2 K3
  gi_wp2_with fail
  refine wpIn_rangeFunc_T rfl (by omega) (gf := 74) (lb := #[.pointer (some ⟨LB, 0, none⟩)]) rfl trivial (enters_of Tryz.func74 (by kernel_rfl) rfl) (encs := encS) (fun _ => rfl) TS GS (SP x) (KeepS OB)
    ?hseq ?hKt ?hKb (fun pre W => ∃ (A' : Option Addr) (c' : Nat), W.heap[OB]? = some (.cells #[.slice A' (lacksL (pre.map gh)).length c'] 33 (0, 0)) ∧ W.ownsRow OB 40 5 (.slice A' (lacksL (pre.map gh)).length c') (lacksL (pre.map gh)).length (lkCells (lacksL (pre.map gh))) ∧ W.heap[R2]? = some (.cells #[.slice none 0 0] 33 (0, 0)) ∧ W.heap[R3]? = some (.cells #[.int .i64 0] 34 (0, 0)) ∧ Below w.heap.size w W ∧ SZ ≤ W.heap.size) ?hI ?hIp ?h0 (fun y a' W => ∃ TB : Nat, a' = { tmps := #[.slice Am N cm, undef, .pointer (some ⟨R2, 0, none⟩), .pointer (some ⟨R3, 0, none⟩), .int .i64 0, .pointer (some ⟨OB, 0, none⟩), .pointer (some ⟨TB, 0, none⟩), undef, undef, .tuple #[.slice Am N cm, .int .i64 0], .slice A0 N c0, .slice (some ⟨VB, 0, none⟩) 1 1, .tuple #[.slice Am N cm, .int .i64 0], .slice Am N cm, .int .i64 0, .int .i64 0, .bool false, undef, .slice Am N cm, .func (.func 74) #[] #[.pointer (some ⟨LB, 0, none⟩)], .agg #[.int .i64 y.fr.mac, .int .i64 y.fr.seq, .int .i64 y.fr.min, .int .u8 y.fr.kind, .int .i64 y.fr.a, .int .i64 y.fr.b, .int .i64 y.tr.mac, .int .i64 y.tr.seq, .int .i64 y.tr.min, .int .u8 y.tr.kind, .int .i64 y.tr.a, .int .i64 y.tr.b, .slice y.A y.bt.length y.c], undef, undef, undef, undef, undef, undef, undef, undef, undef, undef, undef, undef, undef, undef, undef], defers := [] } ∧ W.heap[TB]? = some (.cells #[.int .i64 y.fr.mac, .int .i64 y.fr.seq, .int .i64 y.fr.min, .int .u8 y.fr.kind, .int .i64 y.fr.a, .int .i64 y.fr.b, .int .i64 y.tr.mac, .int .i64 y.tr.seq, .int .i64 y.tr.min, .int .u8 y.tr.kind, .int .i64 y.tr.a, .int .i64 y.tr.b, .slice y.A y.bt.length y.c] 97 (0, 0)) ∧ GS y W) ?hAp ?hassign ?hbody ?hdone
  case hseq =>
    intro l J W hbW hJ hY hst
    refine stretches_in 2 l N cm LB (by omega) Am x w1 W HN.out h60 Hrec.out (Hb23.out.trans (hbW.mono Hb23.out.size)) ((hbW.block _ (Array.getElem?_eq_some_iff.1 HLB.out).1).trans HLB.out) J hJ ?_ hst
    rw [HOB.out]
    exact hY
  case hKt =>
    intro X Y Z h k
    exact ⟨h.low.trans k.low, fun i cur t fr hi ht => k.typ i cur t fr (h.typ i cur t fr hi ht) ht⟩
  case hKb =>
    intro W l o o' hl ho hc
    have hlW := (Array.getElem?_eq_some_iff.1 ho).1
    rw [HSZ.out] at hl
    exact ⟨below_putO o' (Below.refl _ _) (by omega) (by omega) ho, fun i cur t fr hi _ => put_cells o' hi ho hc⟩
  case hI =>
    rintro s X Y ⟨A', c', k1, k2, k3, k4, k5, k6⟩ ht
    rw [HSZ.out] at ht
    have n33 : ¬ TS 33 := fun h => by rcases h with h | h <;> exact absurd h (by decide)
    have n40 : ¬ TS 40 := fun h => by rcases h with h | h <;> exact absurd h (by decide)
    exact ⟨A', c', ht.blk k1 (.inr n33), own_turned k2 ht n40, ht.blk k3 (.inr n33), ht.blk k4 (.inl (by omega)), k5.trans ((ht.below k6).mono (by omega)), Nat.le_trans k6 ht.size⟩
  case hIp =>
    rintro s X l o o' ⟨A', c', k1, k2, k3, k4, k5, k6⟩ hl ho hc
    rw [HSZ.out] at hl
    refine ⟨A', c', put_cells o' k1 ho hc, ownsRow_putObj k2 o' ho hc, put_cells o' k3 ho hc, put_cells o' k4 ho hc, below_putO o' k5 (by omega) (by omega) ho, ?_⟩
    simpa [World.putObj] using k6
  case h0 => exact ⟨none, 0, JO.out, World.ownsRow_nil _ _ _ _, J2.out, J3.out, Hb3.out, Nat.le_of_eq HSZ.out.symm⟩
  case hAp =>
    rintro y a' X l o o' ⟨TB, rfl, k1, k2⟩ hl ho hc
    exact ⟨TB, rfl, put_cells o' k1 ho hc, recs_put o' k2 ho hc⟩
  case hassign =>
    intro l pre y W K hI hG hS hK
    simp only [encS]
    gi_wp2
    refine hK _ _ ?_ ?_ ?_ ⟨W.heap.size, rfl, heap_alloc_new W _, ?_⟩
    · exact (keeps_below ((Below.refl _ _).alloc (Nat.le_refl _) _)).from _
    · exact ⟨((Below.refl _ _).alloc (by obtain ⟨_, _, _, _, _, _, _, k6⟩ := hI; omega) _), fun i cur t fr hi _ => (Below.heap_alloc _ _ _ (Array.getElem?_eq_some_iff.1 hi).1).trans hi⟩
    · obtain ⟨A', c', k1, k2, k3, k4, k5, k6⟩ := hI
      have hba : Below W.heap.size W (W.alloc (.cells #[.int .i64 y.fr.mac, .int .i64 y.fr.seq, .int .i64 y.fr.min, .int .u8 y.fr.kind, .int .i64 y.fr.a, .int .i64 y.fr.b, .int .i64 y.tr.mac, .int .i64 y.tr.seq, .int .i64 y.tr.min, .int .u8 y.tr.kind, .int .i64 y.tr.a, .int .i64 y.tr.b, .slice y.A y.bt.length y.c] 97)) := (Below.refl _ _).alloc (Nat.le_refl _) _
      have kp : ∀ {i : Nat} {o : Obj}, W.heap[i]? = some o → (W.alloc (.cells #[.int .i64 y.fr.mac, .int .i64 y.fr.seq, .int .i64 y.fr.min, .int .u8 y.fr.kind, .int .i64 y.fr.a, .int .i64 y.fr.b, .int .i64 y.tr.mac, .int .i64 y.tr.seq, .int .i64 y.tr.min, .int .u8 y.tr.kind, .int .i64 y.tr.a, .int .i64 y.tr.b, .slice y.A y.bt.length y.c] 97)).heap[i]? = some o := fun h => (hba.block _ (Array.getElem?_eq_some_iff.1 h).1).trans h
      exact ⟨A', c', kp k1, own_below k2 hba, kp k3, kp k4, k5.trans (hba.mono k5.size), Nat.le_trans k6 hba.size⟩
    · exact hG.below ((Below.refl _ _).alloc (Nat.le_refl _) _)
  case hbody =>
    rintro l pre y a' W hlW ⟨A', c', k1, k2, k3, k4, k5, k6⟩ ⟨TB, rfl, hTB, hGS⟩ hS
    have hmem : gh y ∈ strL none (zeroR 0) [] x := hS.subset (by rw [List.map_append]; simp)
    have hso := str_ok x x [] none (zeroR 0) [] rfl (.inl ⟨0, rfl⟩) (by simp) (by simp) _ hmem
    have hcn := Hcan.out _ hmem
    simp only [gh] at hso hcn
    have hbf := fr_bd Hok.out hso.fr
    have hbt := rc_bd (Hok.out _ hso.tr.1)
    have hcall := lack_ok y.fr y.tr y.bt y.A y.c W hGS (by have h : y.bt.length ≤ x.length := hso.len; have := HN.out; omega) (fun r hr => Hok.out r (hso.bt r hr)) hbf.1 hbt.1 hbf.2.1 hbt.2.1 hbf.2.2 hbt.2.2 hcn
    obtain ⟨lk, hlk⟩ : ∃ lk, lackOf y.fr y.bt y.tr = lk := ⟨_, rfl⟩
    rw [hlk] at hcall
    simp only [lkV] at hcall
    obtain ⟨ls, hls⟩ : ∃ ls, lacksL (pre.map gh) = ls := ⟨_, rfl⟩
    rw [hls] at k1 k2
    have hlen : ls.length ≤ 60 := by
      have h1 := lacksL_len (pre.map gh)
      have h2 := hS.length_le
      have h3 := strL_len x none (zeroR 0) []
      have h4 := HN.out
      rw [hls] at h1
      simp at h1 h2
      omega
    have hnext : lacksL (pre.map gh ++ [gh y]) = ls ++ if 0 < lk.sales then [lk] else [] := by
      rw [lacksL_snoc, hls]
      have : lkOfS (gh y) = lk := hlk
      rw [this]
    have Hcall := Lib.hid hcall
    have Hnext := Lib.hid hnext
    have HTB := Lib.hid hTB
    have KO := Lib.hid k1
    have KW := Lib.hid k2
    have K2' := Lib.hid k3
    have K3' := Lib.hid k4
    have KB := Lib.hid k5
    have q := box_cells hTB
    have s0 := q 0
    have s1 := q 1
    have s2 := q 2
    have s3 := q 3
    have s4 := q 4
    have s5 := q 5
    have s6 := q 6
    have s7 := q 7
    have s8 := q 8
    have s9 := q 9
    have s10 := q 10
    have s11 := q 11
    have s12 := q 12
    simp only [List.getElem?_toArray, List.getElem?_cons_zero, List.getElem?_cons_succ] at s0 s1 s2 s3 s4 s5 s6 s7 s8 s9 s10 s11 s12
    clear q hmem hso hcn hbf hbt hcall hlk hls hnext hTB k1 k2 k3 k4 k5 hGS hS
    gi_upto_region 8 with (refine ⟨trivial, ?_⟩; gi_at_call 33; refine (CallsIn.inRound l (callsIn_wide.2 Hcall.out)).mono ?_; rintro e w5 ⟨rfl, hb5⟩)
    have Hb5 := Lib.hid hb5
    refine wpIn_name (fun V7 => Below W.heap.size W V7 ∧ V7.heap[w5.heap.size]? = some (.cells #[.int .i64 lk.mac, .int .i64 lk.fr, .int .i64 lk.to, .int .i64 lk.sales, .int .i64 lk.coins] 40 (0, 0))) ⟨Hb5.out.trans (((Below.refl _ _).alloc (Nat.le_refl _) _).mono Hb5.out.size), heap_alloc_new w5 _⟩ (fun V7 hV7 => ?_)
    obtain ⟨hb7, hX7⟩ := hV7
    clear hb5 s0 s1 s2 s3 s4 s5 s6 s7 s8 s9 s10 s11 s12
    obtain ⟨XB, hXB⟩ : ∃ XB, w5.heap.size = XB := ⟨_, rfl⟩
    rw [hXB] at hX7 ⊢
    have kp : ∀ {i : Nat} {o : Obj}, W.heap[i]? = some o → V7.heap[i]? = some o := fun h => (hb7.block _ (Array.getElem?_eq_some_iff.1 h).1).trans h
    have L1 := Lib.hid (kp KO.out)
    have LW := Lib.hid (own_below KW.out hb7)
    have T7 := Lib.hid (Turns.of_below (B := OB) (T := TL) hb7)
    have hs7 : SZ ≤ V7.heap.size := Nat.le_trans k6 hb7.size
    have qx := box_cells hX7
    have x0 := qx 0
    have x1 := qx 1
    have x2 := qx 2
    have x3 := qx 3
    have x4 := qx 4
    have qo := box_cells L1.out 0
    simp only [List.getElem?_toArray, List.getElem?_cons_zero, List.getElem?_cons_succ] at x0 x1 x2 x3 x4 qo
    clear hXB qx kp hb7
    have fin : ∀ (W' : World), Turns OB TL W W' → KeepsFrom w3.heap.size W W' ∧ KeepS OB W W' ∧ W'.heap[R2]? = some (.cells #[.slice none 0 0] 33 (0, 0)) ∧ W'.heap[R3]? = some (.cells #[.int .i64 0] 34 (0, 0)) ∧ Below w.heap.size w W' ∧ SZ ≤ W'.heap.size := fun W' ht => by
      have hOW : OB ≤ W.heap.size := by omega
      have n1 : ∀ t, TS t ∨ t = 37 → ¬ TL t := fun t h k => by
        rcases h with (h | h) | h <;> rcases k with k | k <;> rw [h] at k <;> exact absurd k (by decide)
      exact ⟨⟨ht.size, fun k o _ hk ho => ht.same k o hk (.inr fun cur t fr e => by subst e; cases ho)⟩, ⟨ht.below hOW, fun k cur t fr hk h => ht.blk hk (.inr (n1 t h))⟩, ht.blk K2'.out (.inl hR2B), ht.blk K3'.out (.inl hR3B), KB.out.trans ((ht.below hOW).mono hwO), Nat.le_trans k6 ht.size⟩
    have Fin := Lib.hid fin
    clear fin
    by_cases hs : 0 < lk.sales
    · have d0 : decide (0 < lk.sales) = true := by simpa using hs
      have hpos : (lkC5 lk).length = 5 := rfl
      have Hs := Lib.hid hs
      have hsv : OB ≤ V7.heap.size := by omega
      clear hs
      have qf := box_frozen L1.out
      gi_wp2_with (gi_at_builtin; go_loud (refine wpListIn_append_src _ rfl (.tmp 31) (.tmp 33) 33 rfl OB 40 i0 _ 5 40 Tryz.underlying33 hi0 hz0 hz1 hz2 rfl (by omega) _ ls.length _ rfl (LW.out.alloc _) (some ⟨V7.heap.size, 0, none⟩) 1 1 (lkC5 lk) rfl (src_new V7 (lkC5 lk) 40 1 5 rfl) (by simp [lkC5, Value.oneCell']) (by simp [maxLen] <;> omega) (by omega) (by simp <;> omega) ?_); intro A9 c9 w9 hown9 hg9 _; have hO9 := own_type_kept (LW.out.alloc (.cells (lkC5 lk).toArray 40)) hg9 ((Below.heap_alloc _ _ _ (Array.getElem?_eq_some_iff.1 L1.out).1).trans L1.out) (by decide); have T9 := Lib.hid ((T7.out.alloc (.cells (lkC5 lk).toArray 40)).trans (Turns.own (LW.out.alloc _) hg9 (Or.inl rfl : TL 40) (Nat.le_refl _))); have Hown9 := Lib.hid hown9; have HO9 := Lib.hid hO9; have qo9 := box_cells hO9 0; have qf9 := box_frozen hO9; simp only [List.getElem?_toArray, List.getElem?_cons_zero] at qo9; clear hown9 hg9 hO9 x0 x1 x2 x3 x4 qo qf)
      have hput := blk_set HO9.out (o := 0) (.slice A9 (ls.length + 1) c9)
      simp only [List.setIfInBounds_toArray, List.set_cons_zero] at hput
      have ht := T9.out.trans (Turns.set (B := OB) (T := TL) 0 (.slice A9 (ls.length + 1) c9) (Nat.le_refl _) HO9.out (Or.inr rfl))
      have hox := own_sets Hown9.out HO9.out (by decide) [(0, .slice A9 (ls.length + 1) c9)]
      obtain ⟨f1, f2, f3, f4, f5, f6⟩ := Fin.out _ ht
      have hl1 : (ls ++ [lk]).length = ls.length + 1 := by simp
      refine ⟨f1, f2, A9, c9, ?_, ?_, f3, f4, ?_⟩
      · rw [Hnext.out, if_pos Hs.out, hl1]; exact hput
      · rw [Hnext.out, if_pos Hs.out, hl1, lkCells_snoc]; exact hox
      · exact ⟨f5, by simpa [World.setCell] using f6⟩
    · have d0 : decide (0 < lk.sales) = false := by simpa using hs
      have Hs := Lib.hid hs
      clear hs
      gi_wp2
      obtain ⟨f1, f2, f3, f4, f5, f6⟩ := Fin.out _ T7.out
      refine ⟨f1, f2, A', c', ?_, ?_, f3, f4, ?_⟩
      · rw [Hnext.out, if_neg (by have := Hs.out; omega), List.append_nil]; exact L1.out
      · rw [Hnext.out, if_neg (by have := Hs.out; omega), List.append_nil]; exact LW.out
      · first | exact ⟨f5, f6⟩ | exact f5
  case hdone =>
    rintro D xs W hD hS hnS ⟨A', c', k1, k2, k3, k4, k5, k6⟩ hDd
    rw [sp_all hS hnS] at k1 k2
    obtain ⟨ls, hls⟩ : ∃ ls, lacksL (strL none (zeroR 0) [] x) = ls := ⟨_, rfl⟩
    rw [hls] at k1 k2
    have Hls := Lib.hid hls
    have hneq : R2 ≠ R3 := by have := HR3e.out; omega
    have hneO : OB ≠ R2 := by omega
    have hneO3 : OB ≠ R3 := by omega
    have KO := Lib.hid k1
    have KW := Lib.hid k2
    have K2' := Lib.hid k3
    have K3' := Lib.hid k4
    have KB := Lib.hid k5
    have qo := box_cells k1 0
    have q2 := box_cells k3 0
    have q3 := box_cells k4 0
    have f2 := box_frozen k3
    have f3 := box_frozen k4
    simp only [List.getElem?_toArray, List.getElem?_cons_zero] at qo q2 q3
    clear k1 k2 k3 k4 k5 hls
    gi_wp2
    have hR2w : w.heap.size ≤ R2 := by have := HR2e.out; omega
    have hR3w : w.heap.size ≤ R3 := by have := HR3e.out; omega
    have hDD : SZ ≤ D := by have := HSZ.out; omega
    have b5 := (KB.out.setCell (p := ⟨R2, 0, none⟩) hR2w (.slice A' ls.length c')).setCell (p := ⟨R3, 0, none⟩) hR3w (.int .i64 0)
    have z2 := blk_other (blk_set K2'.out (o := 0) (.slice A' ls.length c')) hneq (.int .i64 0) (o := 0)
    have z3 := blk_set (blk_other K3'.out hneq.symm (.slice A' ls.length c') (o := 0)) (o := 0) (.int .i64 0)
    simp only [List.setIfInBounds_toArray, List.set_cons_zero] at z2 z3
    have zo := own_sets (own_sets KW.out K2'.out (by decide) [(0, .slice A' ls.length c')]) (blk_other K3'.out hneq.symm (.slice A' ls.length c') (o := 0)) (by decide) [(0, .int .i64 0)]
    have zD : ((W.setCell ⟨R2, 0, none⟩ (.slice A' ls.length c')).setCell ⟨R3, 0, none⟩ (.int .i64 0)).heap[D]? = some (.deferred (some [])) := by
      rw [heap_setCell_other _ _ _ _ (by omega), heap_setCell_other _ _ _ _ (by omega)]
      exact hDd
    have HzO := Lib.hid zo
    have Hb5 := Lib.hid b5
    have Hz2 := Lib.hid z2
    have Hz3 := Lib.hid z3
    clear zo b5 z2 z3 qo q2 q3 f2 f3
    refine leaves_marks w.heap.size [D] _ ⟨by simp, fun d hd => ?_⟩ (fun W' hb' hk' => ?_)
    · rw [List.mem_singleton.1 hd]
      exact ⟨by omega, zD⟩
    · have y2 := box_cells (hk' _ _ Hz2.out rfl) 0
      have y3 := box_cells (hk' _ _ Hz3.out rfl) 0
      simp only [List.getElem?_toArray, List.getElem?_cons_zero] at y2 y3
      refine ⟨.tuple #[.slice A' ls.length c', .int .i64 0], by simp [results, Tryz.results9, go_sem, y2, y3, Result.andThen], ?_⟩
      rw [Hls.out]
      exact ⟨A', c', rfl, own_mono (own_cells_kept HzO.out hk') hwO, Hb5.out.trans hb'⟩
end Go.Proofs.YtckgapeednokjaaGreat
