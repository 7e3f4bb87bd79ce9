import Derived.Test.YtobeffjdfhkjeaaPW
import Derived.Deep.CutRange
import Derived.Deep.Cut
set_option linter.unusedVariables false
set_option linter.unusedSimpArgs false
namespace Go.Proofs.Ytobeffjdfhkjeaa
open Go Go.Proofs Go.RowKit


structure Box4 (w : World) (b : Nat) (x0 x1 x2 x3 : Value) : Prop where
  c0 : w.cell? ⟨b, 0, none⟩ = some x0
  c1 : w.cell? ⟨b, 1, none⟩ = some x1
  c2 : w.cell? ⟨b, 2, none⟩ = some x2
  c3 : w.cell? ⟨b, 3, none⟩ = some x3
  f0 : w.frozen? ⟨b, 0, none⟩ = false
  f1 : w.frozen? ⟨b, 1, none⟩ = false
  f2 : w.frozen? ⟨b, 2, none⟩ = false
  f3 : w.frozen? ⟨b, 3, none⟩ = false
  lt : b < w.heap.size
theorem Box4.below {w w' : World} {b : Nat} {x0 x1 x2 x3 : Value} (h : Box4 w b x0 x1 x2 x3) (hb : Below w.heap.size w w') : Box4 w' b x0 x1 x2 x3 :=
  ⟨cell_below hb h.c0, cell_below hb h.c1, cell_below hb h.c2, cell_below hb h.c3, (hb.frozen (p := ⟨b, 0, none⟩) h.lt).trans h.f0, (hb.frozen (p := ⟨b, 1, none⟩) h.lt).trans h.f1, (hb.frozen (p := ⟨b, 2, none⟩) h.lt).trans h.f2, (hb.frozen (p := ⟨b, 3, none⟩) h.lt).trans h.f3, Nat.lt_of_lt_of_le h.lt hb.size⟩
theorem Box4.new (w : World) (x0 x1 x2 x3 : Value) (t : TypeId) : Box4 (w.alloc (.cells #[x0, x1, x2, x3] t)) w.heap.size x0 x1 x2 x3 :=
  ⟨by simp [go_sem], by simp [go_sem], by simp [go_sem], by simp [go_sem], by simp [go_sem], by simp [go_sem], by simp [go_sem], by simp [go_sem], by simp⟩
theorem Box4.other {w : World} {b : Nat} {x0 x1 x2 x3 : Value} (h : Box4 w b x0 x1 x2 x3) {a : Addr} (ha : a.block ≠ b) (u : Value) : Box4 (w.setCell a u) b x0 x1 x2 x3 :=
  ⟨(World.cell?_setCell_other _ _ _ _ (fun e => ha (by rw [e]))).trans h.c0, (World.cell?_setCell_other _ _ _ _ (fun e => ha (by rw [e]))).trans h.c1, (World.cell?_setCell_other _ _ _ _ (fun e => ha (by rw [e]))).trans h.c2, (World.cell?_setCell_other _ _ _ _ (fun e => ha (by rw [e]))).trans h.c3,
   by rw [World.frozen?_setCell]; exact h.f0, by rw [World.frozen?_setCell]; exact h.f1, by rw [World.frozen?_setCell]; exact h.f2, by rw [World.frozen?_setCell]; exact h.f3, by simpa using h.lt⟩
theorem Box4.set3 {w : World} {b : Nat} {x0 x1 x2 x3 : Value} (h : Box4 w b x0 x1 x2 x3) (u : Value) : Box4 (w.setCell ⟨b, 3, none⟩ u) b x0 x1 x2 u :=
  ⟨(World.cell?_setCell_other _ _ _ _ (by simp)).trans h.c0, (World.cell?_setCell_other _ _ _ _ (by simp)).trans h.c1, (World.cell?_setCell_other _ _ _ _ (by simp)).trans h.c2, World.cell?_setCell_same' _ _ _ (by rw [h.c3]; rfl),
   by rw [World.frozen?_setCell]; exact h.f0, by rw [World.frozen?_setCell]; exact h.f1, by rw [World.frozen?_setCell]; exact h.f2, by rw [World.frozen?_setCell]; exact h.f3, by simpa using h.lt⟩
theorem Box4.set2 {w : World} {b : Nat} {x0 x1 x2 x3 : Value} (h : Box4 w b x0 x1 x2 x3) (u : Value) : Box4 (w.setCell ⟨b, 2, none⟩ u) b x0 x1 u x3 :=
  ⟨(World.cell?_setCell_other _ _ _ _ (by simp)).trans h.c0, (World.cell?_setCell_other _ _ _ _ (by simp)).trans h.c1, World.cell?_setCell_same' _ _ _ (by rw [h.c2]; rfl), (World.cell?_setCell_other _ _ _ _ (by simp)).trans h.c3,
   by rw [World.frozen?_setCell]; exact h.f0, by rw [World.frozen?_setCell]; exact h.f1, by rw [World.frozen?_setCell]; exact h.f2, by rw [World.frozen?_setCell]; exact h.f3, by simpa using h.lt⟩
theorem Box4.set1 {w : World} {b : Nat} {x0 x1 x2 x3 : Value} (h : Box4 w b x0 x1 x2 x3) (u : Value) : Box4 (w.setCell ⟨b, 1, none⟩ u) b x0 u x2 x3 :=
  ⟨(World.cell?_setCell_other _ _ _ _ (by simp)).trans h.c0, World.cell?_setCell_same' _ _ _ (by rw [h.c1]; rfl), (World.cell?_setCell_other _ _ _ _ (by simp)).trans h.c2, (World.cell?_setCell_other _ _ _ _ (by simp)).trans h.c3,
   by rw [World.frozen?_setCell]; exact h.f0, by rw [World.frozen?_setCell]; exact h.f1, by rw [World.frozen?_setCell]; exact h.f2, by rw [World.frozen?_setCell]; exact h.f3, by simpa using h.lt⟩
theorem Box4.set0 {w : World} {b : Nat} {x0 x1 x2 x3 : Value} (h : Box4 w b x0 x1 x2 x3) (u : Value) : Box4 (w.setCell ⟨b, 0, none⟩ u) b u x1 x2 x3 :=
  ⟨World.cell?_setCell_same' _ _ _ (by rw [h.c0]; rfl), (World.cell?_setCell_other _ _ _ _ (by simp)).trans h.c1, (World.cell?_setCell_other _ _ _ _ (by simp)).trans h.c2, (World.cell?_setCell_other _ _ _ _ (by simp)).trans h.c3,
   by rw [World.frozen?_setCell]; exact h.f0, by rw [World.frozen?_setCell]; exact h.f1, by rw [World.frozen?_setCell]; exact h.f2, by rw [World.frozen?_setCell]; exact h.f3, by simpa using h.lt⟩

/-- A stratum by value, whose list is new. -/
def GivesStrat (w : World) (s : Strat) (e : Ending) (w' : World) : Prop :=
  ∃ A c, e = .returned (.agg #[.int .i64 s.coins, .int .i64 s.lo, .int .i64 s.hi, .slice A s.seen.length c]) ∧ w'.ownsRow w.heap.size 3 1 (.slice A s.seen.length c) s.seen.length (s.seen.map (.int .i64)) ∧ Below w.heap.size w w'

set_option maxRecDepth 100000 in
set_option maxHeartbeats 3200000 in
theorem With_any (n : Int) (s : Strat) (u v : Value) (many : Nat) (y : List Int) (w : World) (hu : NumsAt .i64 w u s.seen) (hv : NumsAt .i64 w v y) (hn5 : n ≤ 5) (hs : stratB n s = true) (hy : More s many y) (hm : (many : Int) ≤ 400) :
    Calls Try.prog 66 #[.agg #[.int .i64 s.coins, .int .i64 s.lo, .int .i64 s.hi, u], v] w (GivesStrat w (withS s y)) := by
  obtain ⟨A, c, rfl, hc, hcm⟩ := hu.form
  obtain ⟨A', c', rfl, hc', hcm'⟩ := hv.form
  obtain ⟨k1, k2, k3, k4⟩ := strat_nums hs
  obtain ⟨_, g1, g2, _, hsn, _, _⟩ := stratB_iff.1 hs
  have hyl := hy.len
  have hyb : ∀ z ∈ y, -1000000 ≤ z ∧ z ≤ 1000000 := fun z hz => by
    obtain ⟨j, hj, rfl⟩ := List.getElem_of_mem hz
    have := elem_le_sum hy.pos j
    rw [List.getElem?_eq_getElem hj, Option.getD_some, hy.sum] at this
    omega
  have hsb : ∀ z ∈ s.seen, -1000000 ≤ z ∧ z ≤ 1000000 := fun z hz => by have := k4 z hz; omega
  have hpl : (plusL s.seen y).length = s.seen.length := plusL_len hyl
  have hpsum := plusL_sum (a := s.seen) (b := y) hyl
  have hps := hy.sum
  have hpos : ∀ z ∈ plusL s.seen y, 0 ≤ z ∧ z ≤ 100000000000 := fun z hz => by
    obtain ⟨j, hj, rfl⟩ := List.getElem_of_mem hz
    have e := plusL_at (a := s.seen) (b := y) (c := j) hyl
    rw [List.getElem?_eq_getElem hj, Option.getD_some] at e
    rw [e]
    have h8 := seen_at hs j
    have h9 := elem_le_sum hy.pos j
    omega
  have hs5 : s.seen.length ≤ 5 := by omega
  have hok : SumOk (plusL s.seen y) := sumOk_of (by omega) hpos
  obtain ⟨P, hP⟩ : ∃ P, plusL s.seen y = P := ⟨_, rfl⟩
  have hwith : withS s y = ⟨s.coins, max s.lo (sumL P), s.hi, P⟩ := by rw [← hP]; rfl
  have hPs : 0 ≤ sumL P ∧ sumL P ≤ 800 := by rw [← hP]; have := sumL_nonneg (l := s.seen) (fun x hx => (k4 x hx).1); omega
  have hplus := Lib.hid fun W (h1 : NumsAt .i64 W (.slice A s.seen.length c) s.seen) (h2 : NumsAt .i64 W (.slice A' y.length c') y) => plus_any _ _ s.seen y W h1 h2 hyl hsb hyb (by omega)
  rw [hP] at hplus hok hpl
  have hpl5 : P.length ≤ 5 := by omega
  rw [hwith]
  have Hpl := Lib.hid hpl
  clear hpos hps hpsum hsb hyb hyl hsn k4 hs hP hwith hpl hy
  go_enter Try.func66, Try.ntmps66
  have B1 : Box4 (((w.alloc (.cells #[.int .i64 s.coins, .int .i64 s.lo, .int .i64 s.hi, .slice A s.seen.length c] 44)).alloc (.cells #[.int .i64 0, .int .i64 0, .int .i64 0, .slice none 0 0] 44)).alloc (.cells #[.int .i64 s.coins, .int .i64 s.lo, .int .i64 s.hi, .slice A s.seen.length c] 44)) w.heap.size (.int .i64 s.coins) (.int .i64 s.lo) (.int .i64 s.hi) (.slice A s.seen.length c) :=
    ((Box4.new w _ _ _ _ 44).below ((Below.refl _ _).alloc (Nat.le_refl _) _)).below ((Below.refl _ _).alloc (Nat.le_refl _) _)
  have B2 : Box4 (((w.alloc (.cells #[.int .i64 s.coins, .int .i64 s.lo, .int .i64 s.hi, .slice A s.seen.length c] 44)).alloc (.cells #[.int .i64 0, .int .i64 0, .int .i64 0, .slice none 0 0] 44)).alloc (.cells #[.int .i64 s.coins, .int .i64 s.lo, .int .i64 s.hi, .slice A s.seen.length c] 44)) (w.heap.size + 1) (.int .i64 0) (.int .i64 0) (.int .i64 0) (.slice none 0 0) := by
    have := (Box4.new (w.alloc (.cells #[.int .i64 s.coins, .int .i64 s.lo, .int .i64 s.hi, .slice A s.seen.length c] 44)) (.int .i64 0) (.int .i64 0) (.int .i64 0) (.slice none 0 0) 44).below ((Below.refl _ _).alloc (Nat.le_refl _) (.cells #[.int .i64 s.coins, .int .i64 s.lo, .int .i64 s.hi, .slice A s.seen.length c] 44))
    simpa using this
  have B3 : Box4 (((w.alloc (.cells #[.int .i64 s.coins, .int .i64 s.lo, .int .i64 s.hi, .slice A s.seen.length c] 44)).alloc (.cells #[.int .i64 0, .int .i64 0, .int .i64 0, .slice none 0 0] 44)).alloc (.cells #[.int .i64 s.coins, .int .i64 s.lo, .int .i64 s.hi, .slice A s.seen.length c] 44)) (w.heap.size + 1 + 1) (.int .i64 s.coins) (.int .i64 s.lo) (.int .i64 s.hi) (.slice A s.seen.length c) := by
    have := Box4.new ((w.alloc (.cells #[.int .i64 s.coins, .int .i64 s.lo, .int .i64 s.hi, .slice A s.seen.length c] 44)).alloc (.cells #[.int .i64 0, .int .i64 0, .int .i64 0, .slice none 0 0] 44)) (.int .i64 s.coins) (.int .i64 s.lo) (.int .i64 s.hi) (.slice A s.seen.length c) 44
    simpa using this
  have hb0 : Below w.heap.size w (((w.alloc (.cells #[.int .i64 s.coins, .int .i64 s.lo, .int .i64 s.hi, .slice A s.seen.length c] 44)).alloc (.cells #[.int .i64 0, .int .i64 0, .int .i64 0, .slice none 0 0] 44)).alloc (.cells #[.int .i64 s.coins, .int .i64 s.lo, .int .i64 s.hi, .slice A s.seen.length c] 44)) :=
    (((Below.refl _ _).alloc (Nat.le_refl _) _).alloc (by simp) _).alloc (by simp; omega) _
  go_wp2_with fail
  refine (hplus.out _ (hu.below hb0) (hv.below hb0)).mono ?_
  rintro e w1 ⟨A1, c1, rfl, o1, hb1⟩
  have hw1 := hb0.trans (hb1.mono hb0.size)
  replace B1 := B1.below hb1
  replace B2 := B2.below hb1
  replace B3 := B3.below hb1
  have z0 := B3.c3
  have z1 := B3.f3
  go_upto_region 3 with fail
  clear z0 z1
  replace B1 := B1.other (a := ⟨w.heap.size + 1 + 1, 3, none⟩) (by simp only; omega) (.slice A1 P.length c1)
  replace B2 := B2.other (a := ⟨w.heap.size + 1 + 1, 3, none⟩) (by simp only; omega) (.slice A1 P.length c1)
  replace B3 := B3.set3 (.slice A1 P.length c1)
  have o2 := ownsRow_setCell_below o1 (a := ⟨w.heap.size + 1 + 1, 3, none⟩) (by simp) (.slice A1 P.length c1)
  have hw2 := hw1.setCell (p := ⟨w.heap.size + 1 + 1, 3, none⟩) (by simp only; omega) (.slice A1 P.length c1)
  have hsb : w.heap.size + 3 ≤ (((w.alloc (.cells #[.int .i64 s.coins, .int .i64 s.lo, .int .i64 s.hi, .slice A s.seen.length c] 44)).alloc (.cells #[.int .i64 0, .int .i64 0, .int .i64 0, .slice none 0 0] 44)).alloc (.cells #[.int .i64 s.coins, .int .i64 s.lo, .int .i64 s.hi, .slice A s.seen.length c] 44)).heap.size := by simp
  generalize (((w.alloc (.cells #[.int .i64 s.coins, .int .i64 s.lo, .int .i64 s.hi, .slice A s.seen.length c] 44)).alloc (.cells #[.int .i64 0, .int .i64 0, .int .i64 0, .slice none 0 0] 44)).alloc (.cells #[.int .i64 s.coins, .int .i64 s.lo, .int .i64 s.hi, .slice A s.seen.length c] 44)).heap.size = base at *
  generalize w1.setCell ⟨w.heap.size + 1 + 1, 3, none⟩ (.slice A1 P.length c1) = w2 at *
  clear o1 hb1 hw1 hb0
  have d0 : Below w2.heap.size w2 w2.drew := (Below.refl _ _).drew
  replace B1 := B1.below d0
  replace B2 := B2.below d0
  replace B3 := B3.below d0
  replace o2 := own_below o2 d0
  replace hw2 := hw2.trans (d0.mono hw2.size)
  refine wp_region_noPanic ?_
  refine wp_region_pick [0, 1, 2, 3, 4] [5, 6, 7, 8, 9] (fun _ => true) (fun w' => w'.cell? ⟨w.heap.size, 1, none⟩ = some (.int .i64 s.lo) ∧ w'.cell? ⟨w.heap.size + 1 + 1, 3, none⟩ = some (.slice A1 P.length c1)) (by kernel_rfl) (by kernel_rfl) (fun _ _ _ _ _ h => h) ⟨B1.c1, B3.c3⟩ (fun hne => ?_)
  have m0 := fun q : Meets (fun w' => w'.cell? ⟨w.heap.size, 1, none⟩ = some (.int .i64 s.lo) ∧ w'.cell? ⟨w.heap.size + 1 + 1, 3, none⟩ = some (.slice A1 P.length c1)) => q.property
  have x0 := fun q => (m0 q).1
  have x1 := fun q => (m0 q).2
  clear m0
  generalize w2.drew = w3 at *
  simp only [pick, pickN, List.filterMap_cons, List.filterMap_nil, List.getElem?_cons_zero, List.getElem?_cons_succ, Option.map_some]
  repeat (change wpQuiet _ _ _ _ (_ :: _) _; go_big_quiet_step (fail))
  refine wpQuiet_nil ?_
  clear x0 x1 hne d0
  refine wpSeqP_step (fun K hK => ?_)
  go_simp
  refine (Sum_same _ P _ (nums_of_own o2) hok).mono ?_
  rintro e w4 ⟨rfl, rfl⟩
  refine hK.out _ _ (fun _ => ⟨B1.c1, B3.c3⟩) ?_
  clear hK K
  refine wpSeqP_step (fun K hK => ?_)
  go_simp
  refine hK.out _ _ (fun _ => ⟨B1.c1, B3.c3⟩) ?_
  clear hK K
  refine wpSeqP_step (fun K hK => ?_)
  go_simp
  refine hK.out _ _ (fun _ => ⟨B1.c1, B3.c3⟩) ?_
  clear hK K
  refine wpSeqP_step (fun K hK => ?_)
  go_simp
  refine hK.out _ _ (fun _ => ⟨B1.c1, B3.c3⟩) ?_
  clear hK K
  have z0 := B3.c1
  have z1 := B3.f1
  refine wpSeqP_step (fun K hK => ?_)
  go_simp
  have hmx : (if s.lo < sumL P then sumL P else s.lo) = max s.lo (sumL P) := by split <;> omega
  rw [hmx]
  obtain ⟨L, hL⟩ : ∃ L, max s.lo (sumL P) = L := ⟨_, rfl⟩
  rw [hL]
  clear hmx z0 z1
  have C1 := B1.other (a := ⟨w.heap.size + 1 + 1, 1, none⟩) (by simp only; omega) (.int .i64 L)
  have C2 := B2.other (a := ⟨w.heap.size + 1 + 1, 1, none⟩) (by simp only; omega) (.int .i64 L)
  have C3 := B3.set1 (.int .i64 L)
  have o3 := ownsRow_setCell_below o2 (a := ⟨w.heap.size + 1 + 1, 1, none⟩) (by simp only; omega) (.int .i64 L)
  have hw4 := hw2.setCell (p := ⟨w.heap.size + 1 + 1, 1, none⟩) (by simp only; omega) (.int .i64 L)
  refine hK.out _ _ (fun _ => ⟨C1.c1, C3.c3⟩) ?_
  clear hK K B1 B2 B3 o2 hw2
  generalize w3.setCell ⟨w.heap.size + 1 + 1, 1, none⟩ (.int .i64 L) = w4 at *
  refine wpSeqP_nil ?_
  refine NoPanic.normal ?_
  have y0 := C3.c0
  have y1 := C3.c1
  have y2 := C3.c2
  have y3 := C3.c3
  have q0 := C2.c0
  have q1 := C2.c1
  have q2 := C2.c2
  have q3 := C2.c3
  have q4 := C2.f0
  have q5 := C2.f1
  have q6 := C2.f2
  have q7 := C2.f3
  go_wp2
  have D := (((C2.set0 (.int .i64 s.coins)).set1 (.int .i64 L)).set2 (.int .i64 s.hi)).set3 (.slice A1 P.length c1)
  have o4 := ownsRow_setCell_below (ownsRow_setCell_below (ownsRow_setCell_below (ownsRow_setCell_below o3 (a := ⟨w.heap.size + 1, 0, none⟩) (by simp only; omega) (.int .i64 s.coins)) (a := ⟨w.heap.size + 1, 1, none⟩) (by simp only; omega) (.int .i64 L)) (a := ⟨w.heap.size + 1, 2, none⟩) (by simp only; omega) (.int .i64 s.hi)) (a := ⟨w.heap.size + 1, 3, none⟩) (by simp only; omega) (.slice A1 P.length c1)
  refine bodyPost_ret (v := .agg #[.int .i64 s.coins, .int .i64 L, .int .i64 s.hi, .slice A1 P.length c1]) (by simp [results, Try.results66, go_sem, D.c0, D.c1, D.c2, D.c3]) rfl ⟨A1, c1, by simp only [hL], ?_, ?_⟩
  · exact own_mono o4 (by omega)
  · exact (((hw4.setCell (p := ⟨w.heap.size + 1, 0, none⟩) (by simp only; omega) _).setCell (p := ⟨w.heap.size + 1, 1, none⟩) (by simp only; omega) _).setCell (p := ⟨w.heap.size + 1, 2, none⟩) (by simp only; omega) _).setCell (p := ⟨w.heap.size + 1, 3, none⟩) (by simp only; omega) _

set_option maxRecDepth 100000 in
set_option maxHeartbeats 3200000 in
theorem Narrow_any (n : Int) (s : Strat) (u : Value) (coins : Int) (many : Nat) (w : World) (hu : NumsAt .i64 w u s.seen) (hn1 : 1 ≤ n) (hn5 : n ≤ 5) (hs : stratB n s = true) (h4 : s.hi - sumL s.seen ≤ 4) (hm : (many : Int) ≤ s.hi - sumL s.seen) :
    Calls Try.prog 43 #[.agg #[.int .i64 s.coins, .int .i64 s.lo, .int .i64 s.hi, u], .int .i64 coins, .int .i64 many] w (Gives w (.bool (refNarrowB s coins many))) := by
  obtain ⟨A, c, rfl, hc, hcm⟩ := hu.form
  have hsn := (stratB_iff.1 hs).2.2.2.2.1
  have hs5 : s.seen.length ≤ 5 := by omega
  have hmany : many ≤ 4 := by omega
  have hupl := uptoL_len s.seen.length many [] hmany
  have hpow : 5 ^ s.seen.length ≤ 3125 := by
    have h := Nat.pow_le_pow_right (show 0 < 5 by omega) hs5
    simpa using h
  have hmem : ∀ y ∈ uptoL s.seen.length many [], y.length = s.seen.length ∧ (∀ z ∈ y, 0 ≤ z ∧ z ≤ 4) := fun x hx => by
    obtain ⟨y, e, hy, h0, hsu⟩ := (mem_uptoL _ _ _ _).1 hx
    obtain rfl : x = y := e
    refine ⟨hy, fun z hz => ⟨h0 z hz, ?_⟩⟩
    obtain ⟨j, hj, rfl⟩ := List.getElem_of_mem hz
    have := (elem_le_sum h0 j).2
    rw [List.getElem?_eq_getElem hj, Option.getD_some] at this
    omega
  have Hmem := Lib.hid hmem
  have hmore : ∀ y ∈ uptoL s.seen.length many [], sumL y = many → More s many y := fun y hy hsu => mem_more.1 ⟨hy, hsu⟩
  have Hmore := Lib.hid hmore
  have Hs := Lib.hid hs
  have Hdef : Hid (refNarrowB s coins many = (uptoL s.seen.length many []).all fun y => !(decide (sumL y = many) && decide (coins < widthS (withS s y)))) := rfl
  clear hmem hmore hsn hs
  obtain ⟨up, hup⟩ : ∃ up, uptoL s.seen.length many [] = up := ⟨_, rfl⟩
  have hcallU : ∀ W : World, Calls Try.prog 65 #[.int .i64 (s.seen.length : Int), .int .i64 many, .slice none 0 0] W (GivesRows W up) := fun W => by
    rw [← hup]
    exact upto_any s.seen.length many s.seen.length _ [] W ⟨none, 0, rfl, by simp, by simp [maxLen], by simp⟩ (by simp) hs5 hmany
  have HcallU := Lib.hid hcallU
  rw [hup] at hupl Hmem Hmore Hdef
  clear hup hcallU
  have hb0 : Below w.heap.size w (w.alloc (.cells #[.int .i64 s.coins, .int .i64 s.lo, .int .i64 s.hi, .slice A s.seen.length c] 44)) := (Below.refl _ _).alloc (Nat.le_refl _) _
  have B0 := Box4.new w (.int .i64 s.coins) (.int .i64 s.lo) (.int .i64 s.hi) (.slice A s.seen.length c) 44
  have b3 := B0.c3
  go_enter Try.func43, Try.ntmps43
  go_wp2_with fail
  clear b3
  refine (HcallU.out _).mono ?_
  rintro e w1 ⟨A1, c1, us1, rfl, o1, q1, hb1⟩
  have hw1 := hb0.trans (hb1.mono hb0.size)
  replace B0 := B0.below hb1
  have r1 := rows_of_own o1 q1
  clear o1 q1
  go_wp2_with fail
  go_loopw [8] (fun i wr => ∃ k : Nat, k ≤ up.length ∧ i = .int .i64 k ∧ Below w1.heap.size w1 wr ∧ ∀ (j : Nat) (y : List Int), j < k → up[j]? = some y → (!(decide (sumL y = many) && decide (coins < widthS (withS s y)))) = true) (fun i wr => up.length - (intOf i).toNat)
  case atStart => exact ⟨0, by omega, rfl, Below.refl _ _, by intro j y h; omega⟩
  case round =>
    obtain ⟨k, hk, rfl, hbr, hall⟩ := hrel
    obtain ⟨wo, rfl⟩ : ∃ wo : World, wo = wr := ⟨_, rfl⟩
    have Hall := Lib.hid hall
    clear hall
    by_cases hlt : k < up.length
    · have hltI : (k : Int) < (up.length : Int) := by omega
      obtain ⟨b2, o2, y, x, rfl, hl, dl, hx, hbx⟩ := r1.at_ hlt
      have hym := List.mem_of_getElem? hl
      obtain ⟨hyl, hyb⟩ := Hmem.out y hym
      have hyok : SumOk y := sumOk_of (by omega) (fun z hz => by have := hyb z hz; omega)
      have Hl := Lib.hid hl
      clear hl
      replace dl := cell_below hbr dl
      have hxo := hx.below hbr
      have BR := B0.below hbr
      have huo := hu.below (hw1.trans (hbr.mono hw1.size))
      obtain ⟨D, F, rfl, hD, hD'⟩ := hxo.form
      have Hyl := Lib.hid hyl
      clear hyl hyb
      by_cases hsum : sumL y = many
      · have hyM := Hmore.out y hym hsum
        have hst' := with_strat Hs.out hyM hm
        have hu4 : (withS s y).hi - sumL (withS s y).seen ≤ 4 := by
          show s.hi - sumL (plusL s.seen y) ≤ 4
          rw [plusL_sum hyM.len, hyM.sum]
          omega
        have HyM := Lib.hid hyM
        have Hst' := Lib.hid hst'
        have Hu4 := Lib.hid hu4
        have hsb : ((sumL y) == (many : Int)) = true := beq_iff_eq.2 hsum
        have Hsum := Lib.hid hsum
        clear hyM hst' hu4 hsum
        have d0 : Below wo.heap.size wo wo.drew := (Below.refl _ _).drew
        have CR := BR.below d0
        have el := cell_below d0 dl
        have hxd := hxo.below d0
        have hud := huo.below d0
        go_wp2_with fail
        refine wp_region_noPanic ?_
        refine wp_region_ph [([0, 1, 2, 3, 5], [4]), ([6, 7, 8, 9, 10, 11, 12, 15], [13, 14]), ([16, 17], [])] (fun _ => true) (fun w' => w'.cell? ⟨w.heap.size, 0, none⟩ = some (.int .i64 s.coins) ∧ w'.cell? ⟨w.heap.size, 1, none⟩ = some (.int .i64 s.lo) ∧ w'.cell? ⟨w.heap.size, 2, none⟩ = some (.int .i64 s.hi) ∧ w'.cell? ⟨w.heap.size, 3, none⟩ = some (.slice A s.seen.length c) ∧ w'.cell? ⟨b2, o2 + k, none⟩ = some (.slice D y.length F)) (by kernel_rfl) (by kernel_rfl) (fun _ _ _ _ _ h => h) ?_
        have m0 := fun q : Meets (fun w' => w'.cell? ⟨w.heap.size, 0, none⟩ = some (.int .i64 s.coins) ∧ w'.cell? ⟨w.heap.size, 1, none⟩ = some (.int .i64 s.lo) ∧ w'.cell? ⟨w.heap.size, 2, none⟩ = some (.int .i64 s.hi) ∧ w'.cell? ⟨w.heap.size, 3, none⟩ = some (.slice A s.seen.length c) ∧ w'.cell? ⟨b2, o2 + k, none⟩ = some (.slice D y.length F)) => q.property
        have x0 := fun q => (m0 q).1
        have x1 := fun q => (m0 q).2.1
        have x2 := fun q => (m0 q).2.2.1
        have x3 := fun q => (m0 q).2.2.2.1
        have x4 := fun q => (m0 q).2.2.2.2
        clear m0
        generalize wo.drew = wd at *
        refine wpPh_cons ⟨CR.c0, CR.c1, CR.c2, CR.c3, el⟩ (fun hne => ?_)
        simp only [pick, pickN, List.filterMap_cons, List.filterMap_nil, List.getElem?_cons_zero, List.getElem?_cons_succ, Option.map_some]
        repeat (change wpQuiet _ _ _ _ (_ :: _) _; go_big_quiet_step (fail))
        refine wpQuiet_nil ?_
        refine wpSeqK_step (fun K hK => ?_)
        go_simp
        refine (Sum_same _ y _ hxd hyok).mono ?_
        rintro e w2 ⟨rfl, rfl⟩
        refine hK.out _ _ (fun _ => ⟨CR.c0, CR.c1, CR.c2, CR.c3, el⟩) ?_
        clear hK K hne
        refine wpSeqK_nil ?_
        refine wpPh_cons ⟨CR.c0, CR.c1, CR.c2, CR.c3, el⟩ (fun hne => ?_)
        simp only [pick, pickN, List.filterMap_cons, List.filterMap_nil, List.getElem?_cons_zero, List.getElem?_cons_succ, Option.map_some]
        repeat (change wpQuiet _ _ _ _ (_ :: _) _; go_big_quiet_step (fail))
        refine wpQuiet_nil ?_
        clear hne
        refine wpSeqK_step (fun K hK => ?_)
        go_simp
        refine (With_any n s _ _ many y _ hud hxd hn5 Hs.out HyM.out (by omega)).mono ?_
        rintro e w3 ⟨A3, c3, rfl, o3, hb3⟩
        have DR := CR.below hb3
        have el3 := cell_below hb3 el
        have hn3 := nums_of_own o3
        refine hK.out _ _ (fun _ => ⟨DR.c0, DR.c1, DR.c2, DR.c3, el3⟩) ?_
        clear hK K
        refine wpSeqK_step (fun K hK => ?_)
        go_simp
        refine (Width_any n (withS s y) _ _ hn3 hn1 hn5 Hst'.out Hu4.out).mono ?_
        rintro e w4 ⟨rfl, hb4⟩
        have ER := DR.below hb4
        have el4 := cell_below hb4 el3
        refine hK.out _ _ (fun _ => ⟨ER.c0, ER.c1, ER.c2, ER.c3, el4⟩) ?_
        clear hK K
        refine wpSeqK_nil ?_
        refine wpPh_cons ⟨ER.c0, ER.c1, ER.c2, ER.c3, el4⟩ (fun hne => ?_)
        simp only [pick, pickN, List.filterMap_cons, List.filterMap_nil, List.getElem?_cons_zero, List.getElem?_cons_succ, Option.map_some]
        repeat (change wpQuiet _ _ _ _ (_ :: _) _; go_big_quiet_step (fail))
        refine wpQuiet_nil ?_
        clear hne x0 x1 x2 x3 x4
        refine wpSeqK_nil ?_
        refine wpPh_nil ?_
        refine NoPanic.normal ?_
        have hbo : Below wo.heap.size wo w4 := d0.trans ((hb3.trans (hb4.mono hb3.size)).mono d0.size)
        go_wp2
        · have q : coins < widthS (withS s y) := by assumption
          go_ret
          refine gives_bool ?_ (hw1.trans ((hbr.trans (hbo.mono hbr.size)).mono hw1.size))
          rw [Hdef.out]
          symm
          refine not_all_of Hl.out ?_
          simp [Hsum.out, q]
        · have q : widthS (withS s y) ≤ coins := by assumption
          go_roundw
          case rel =>
            refine ⟨k + 1, by omega, by go_num, hbr.trans (hbo.mono hbr.size), fun j z hj hz => ?_⟩
            by_cases e : j = k
            · subst e
              rw [Hl.out] at hz
              cases hz
              simp
              omega
            · exact Hall.out j z (by omega) hz
          case measure => simp [intOf]; omega
      · have hsb : ((sumL y) == (many : Int)) = false := beq_eq_false_iff_ne.2 hsum
        have Hsum := Lib.hid hsum
        clear hsum
        have x4 := Later.cell dl
        go_wp2_with fail
        refine wp_region_later (by kernel_rfl) (by kernel_rfl) ?_
        repeat (go_big_quiet_step ((go_at_call 30; exact Later.call (Sum_any _ _ _ (hxo.below (Subtype.property _)) hyok))))
        refine wpQuiet_nil ?_
        intro w3 hx3
        have hb3 := Later.out hx3
        clear hx3 x4
        go_wp2
        go_roundw
        case rel =>
          refine ⟨k + 1, by omega, by go_num, hbr.trans (hb3.mono hbr.size), fun j z hj hz => ?_⟩
          by_cases e : j = k
          · subst e
            rw [Hl.out] at hz
            cases hz
            simp [Hsum.out]
          · exact Hall.out j z (by omega) hz
        case measure => simp [intOf]; omega
    · obtain rfl : k = up.length := by omega
      go_wp2
      go_ret
      refine gives_bool ?_ (hw1.trans (hbr.mono hw1.size))
      rw [Hdef.out]
      symm
      exact all_of fun j y hj hy => Hall.out j y hj hy

set_option maxRecDepth 100000 in
theorem refNeeded_any (n : Int) (s : Strat) (u : Value) (coins : Int) (w : World) (hu : NumsAt .i64 w u s.seen) (hn1 : 1 ≤ n) (hn5 : n ≤ 5) (hs : stratB n s = true) (h4 : s.hi - sumL s.seen ≤ 4) (h0 : 0 ≤ coins) :
    Calls Try.prog 41 #[.agg #[.int .i64 s.coins, .int .i64 s.lo, .int .i64 s.hi, u], .int .i64 coins] w (Gives w (.int .i64 (needN s coins))) := by
  obtain ⟨A, c, rfl, hc, hcm⟩ := hu.form
  obtain ⟨hl1, hl2, hl3⟩ := need_least hs hn1 h0
  have Hl2 := Lib.hid hl2
  have hN : ∀ (k : Nat) (W : World) (hk : (k : Int) ≤ s.hi - sumL s.seen), NumsAt .i64 W (.slice A s.seen.length c) s.seen → Calls Try.prog 43 #[.agg #[.int .i64 s.coins, .int .i64 s.lo, .int .i64 s.hi, .slice A s.seen.length c], .int .i64 coins, .int .i64 k] W (Gives W (.bool (narrowB s coins k))) := fun k W hk h => by
    rw [← narrow_ref hs hn1 h0]
    exact Narrow_any n s _ coins k W h hn1 hn5 hs h4 hk
  have HN := Lib.hid hN
  have Hl1 := Lib.hid hl1
  clear hl2 hN hl1 hs
  have hb0 : Below w.heap.size w (w.alloc (.cells #[.int .i64 s.coins, .int .i64 s.lo, .int .i64 s.hi, .slice A s.seen.length c] 44)) := (Below.refl _ _).alloc (Nat.le_refl _) _
  have B0 := Box4.new w (.int .i64 s.coins) (.int .i64 s.lo) (.int .i64 s.hi) (.slice A s.seen.length c) 44
  go_enter Try.func41, Try.ntmps41
  go_wp2
  go_loopw [5] (fun i wr => ∃ k : Nat, k ≤ needN s coins ∧ i = .int .i64 k ∧ Below w.heap.size w wr ∧ Box4 wr w.heap.size (.int .i64 s.coins) (.int .i64 s.lo) (.int .i64 s.hi) (.slice A s.seen.length c)) (fun i wr => needN s coins - (intOf i).toNat)
  case atStart => exact ⟨0, by omega, rfl, hb0, B0⟩
  case round =>
    obtain ⟨k, hk, rfl, hbr, BR⟩ := hrel
    obtain ⟨wo, rfl⟩ : ∃ wo : World, wo = wr := ⟨_, rfl⟩
    have z0 := BR.c0
    have z1 := BR.c1
    have z2 := BR.c2
    have z3 := BR.c3
    have huo := hu.below hbr
    by_cases hlt : k < needN s coins
    · have hf := Hl2.out k hlt
      have hcall := HN.out k wo (by omega) huo
      rw [hf] at hcall
      have hk3 : (k : Int) ≤ 1000000 := by omega
      clear hf
      go_wp2_with (go_at_call 43; refine hcall.mono ?_; rintro e w1 ⟨rfl, hb1⟩)
      go_roundw
      case rel => exact ⟨k + 1, by omega, by go_num, hbr.trans (hb1.mono hbr.size), BR.below hb1⟩
      case measure => simp [intOf]; omega
    · obtain rfl : k = needN s coins := by omega
      have hcall := HN.out (needN s coins) wo (by omega) huo
      rw [Hl1.out] at hcall
      go_wp2_with (go_at_call 43; refine hcall.mono ?_; rintro e w1 ⟨rfl, hb1⟩)
      go_ret
      exact ⟨rfl, hbr.trans (hb1.mono hbr.size)⟩
end Go.Proofs.Ytobeffjdfhkjeaa
