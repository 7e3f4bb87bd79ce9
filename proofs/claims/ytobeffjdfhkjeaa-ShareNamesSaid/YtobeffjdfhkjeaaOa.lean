import Derived.Test.YtobeffjdfhkjeaaTa
import Derived.Test.YtobeffjdfhkjeaaPp
import Derived.Test.YtobeffjdfhkjeaaW7
import Derived.Test.YtobeffjdfhkjeaaRe
import Derived.Deep.CutRange
import Derived.Deep.Cut
set_option linter.unusedVariables false
set_option linter.unusedSimpArgs false
namespace Go.Proofs.Ytobeffjdfhkjeaa
open Go Go.Proofs Go.RowKit

theorem info44 : (Try.prog.info? 44).map (fun i => (i.zero, i.size, i.bytes)) = some (some (.agg #[.int .i64 0, .int .i64 0, .int .i64 0, .slice none 0 0]), 4, 48) := by kernel_rfl

/-- A box of two cells. -/
structure BoxAt (w : World) (b : Nat) (x0 x1 : Value) : Prop where
  c0 : w.cell? ⟨b, 0, none⟩ = some x0
  c1 : w.cell? ⟨b, 1, none⟩ = some x1
  fz : w.frozen? ⟨b, 1, none⟩ = false
  lt : b < w.heap.size
theorem BoxAt.below {w w' : World} {b : Nat} {x0 x1 : Value} (h : BoxAt w b x0 x1) (hb : Below w.heap.size w w') : BoxAt w' b x0 x1 :=
  ⟨cell_below hb h.c0, cell_below hb h.c1, (hb.frozen (p := ⟨b, 1, none⟩) h.lt).trans h.fz, Nat.lt_of_lt_of_le h.lt hb.size⟩
theorem BoxAt.keep {w w' : World} {n b : Nat} {x0 x1 : Value} (h : BoxAt w b x0 x1) (hb : Below n w w') (hn : b < n) : BoxAt w' b x0 x1 :=
  ⟨(hb.cell (p := ⟨b, 0, none⟩) hn).trans h.c0, (hb.cell (p := ⟨b, 1, none⟩) hn).trans h.c1, (hb.frozen (p := ⟨b, 1, none⟩) hn).trans h.fz, Nat.lt_of_lt_of_le h.lt hb.size⟩
theorem BoxAt.other {w : World} {b : Nat} {x0 x1 : Value} (h : BoxAt w b x0 x1) {a : Addr} (ha : a.block ≠ b) (u : Value) : BoxAt (w.setCell a u) b x0 x1 :=
  ⟨(World.cell?_setCell_other _ _ _ _ (fun e => ha (by rw [e]))).trans h.c0, (World.cell?_setCell_other _ _ _ _ (fun e => ha (by rw [e]))).trans h.c1, by rw [World.frozen?_setCell]; exact h.fz, by simpa using h.lt⟩
theorem BoxAt.set {w : World} {b : Nat} {x0 x1 : Value} (h : BoxAt w b x0 x1) (u : Value) : BoxAt (w.setCell ⟨b, 1, none⟩ u) b x0 u :=
  ⟨(World.cell?_setCell_other _ _ _ _ (by simp)).trans h.c0, World.cell?_setCell_same' _ _ _ (by rw [h.c1]; rfl), by rw [World.frozen?_setCell]; exact h.fz, by simpa using h.lt⟩
theorem BoxAt.grown {w w' : World} {b : Nat} {x0 x1 : Value} {row : Option Nat} (h : BoxAt w b x0 x1) (hg : w.grownBy w' row) (hne : some b ≠ row) : BoxAt w' b x0 x1 :=
  ⟨hg.cell h.c0 hne, hg.cell h.c1 hne, (World.frozen?_of_block (hg.block _ h.lt hne)).trans h.fz, Nat.lt_of_lt_of_le h.lt hg.size⟩

theorem add_none' {b o k : Nat} : (Addr.add ⟨b, o, none⟩ k) = ⟨b, o + k, none⟩ := by
  unfold Addr.add
  split
  · rename_i h; subst h; rfl
  · rfl
theorem src_of_own {w : World} {base : Nat} {e : TypeId} {size n c : Nat} {A : Option Addr} {xs : List Value} (h : w.ownsRow base e size (.slice A n c) n xs) : Src w A n size xs := by
  refine ⟨h.1, fun hp => ?_⟩
  obtain ⟨g, rfl, _, _⟩ := own_some h hp
  refine ⟨⟨g, 0, none⟩, rfl, fun j u hj => ?_⟩
  have hl := (List.getElem?_eq_some_iff.1 hj).1
  rw [add_none', Nat.zero_add, h.cellAt j (by rw [← h.1]; exact hl)]
  exact hj

def OrderBoxes (w wx : World) (x y x0 x1 : Value) : Prop :=
  ∃ bx bz, x = .pointer (some ⟨bx, 0, none⟩) ∧ y = .pointer (some ⟨bz, 0, none⟩) ∧ bx ≠ bz ∧ w.heap.size ≤ bx ∧ w.heap.size ≤ bz ∧ BoxAt wx bx x0 x1 ∧ BoxAt wx bz x0 x1 ∧ Below w.heap.size w wx

theorem own_ne {w : World} {base : Nat} {e : TypeId} {size n : Nat} {v : Value} {xs : List Value} (h : w.ownsRow base e size v n xs) {q : Nat} (hq : q < base) : some q ≠ v.ownBlock := fun e => by
  have := (h.lt q e.symm).1
  omega
theorem own_cap {w : World} {base : Nat} {e : TypeId} {size n c : Nat} {A : Option Addr} {xs : List Value} (h : w.ownsRow base e size (.slice A n c) n xs) : n ≤ c ∧ c ≤ 9223372036854775807 := by
  rcases h.2 with ⟨e, _⟩ | ⟨g, cap, cur, h', hb, hg, h1, h2, _⟩
  · cases e; simp
  · cases h'
    unfold maxLen at h2
    exact ⟨h1, h2⟩
theorem rows_one {w : World} {base : Nat} {us : List Value} {ll : List (List Int)} (h : RowsOwn w base us ll) : ∀ u ∈ us, u.oneCell' = true := fun u hu => by
  obtain ⟨j, hj, rfl⟩ := List.getElem_of_mem hu
  obtain ⟨u', h1, h2⟩ := h.2 j _ (List.getElem?_eq_getElem (by rw [← h.1]; exact hj))
  rw [List.getElem?_eq_getElem hj] at h1
  cases h1
  obtain ⟨A, c, e⟩ := own_form h2
  rw [e]
  simp [Value.oneCell']
theorem rows_append {w : World} {base : Nat} {us vs : List Value} {a b : List (List Int)} (h1 : RowsOwn w base us a) (h2 : RowsOwn w base vs b) : RowsOwn w base (us ++ vs) (a ++ b) := by
  refine ⟨by simp [h1.1, h2.1], fun j l hl => ?_⟩
  rw [List.getElem?_append] at hl
  split at hl
  · obtain ⟨u, q1, q2⟩ := h1.2 j l hl
    exact ⟨u, by rw [List.getElem?_append_left (by rw [h1.1]; assumption)]; exact q1, q2⟩
  · rename_i hj
    obtain ⟨u, q1, q2⟩ := h2.2 (j - a.length) l hl
    exact ⟨u, by rw [List.getElem?_append_right (by rw [h1.1]; omega), h1.1]; exact q1, q2⟩

theorem grown_refl (w : World) (r : Option Nat) : w.grownBy w r := ⟨rfl, rfl, rfl, Nat.le_refl _, fun _ _ _ => rfl⟩
theorem grown_trans {a b c : World} {r : Option Nat} (h : a.grownBy b r) (k : b.grownBy c r) : a.grownBy c r :=
  ⟨k.os.trans h.os, k.tape.trans h.tape, k.output.trans h.output, Nat.le_trans h.size k.size, fun i hi hne => (k.block i (Nat.lt_of_lt_of_le hi h.size) hne).trans (h.block i hi hne)⟩
theorem grown_of_below {a b : World} (h : Below a.heap.size a b) (r : Option Nat) : a.grownBy b r := ⟨h.os, h.tape, h.output, h.size, fun i hi _ => h.block i hi⟩
theorem grown_set {w : World} {b : Nat} (o : Nat) (u : Value) : w.grownBy (w.setCell ⟨b, o, none⟩ u) (some b) :=
  ⟨rfl, rfl, rfl, by simp, fun i hi hne => heap_setCell_other w b o u (fun e => hne (by rw [e]))⟩
theorem below_grownAt {B b : Nat} {a w w' : World} (h : Below B a w) (hg : w.grownBy w' (some b)) (hB : B ≤ b) (hs : B ≤ w.heap.size) : Below B a w' :=
  ⟨hg.os.trans h.os, hg.tape.trans h.tape, hg.output.trans h.output, Nat.le_trans h.size hg.size, fun i hi => (hg.block i (by omega) (fun e => by have := Option.some.inj e; omega)).trans (h.block i hi)⟩
theorem grown_own {a w w' : World} {b base : Nat} {e : TypeId} {size n : Nat} {v : Value} {xs : List Value} (h : a.grownBy w (some b)) (ho : w.ownsRow base e size v n xs) (hg : w.grownBy w' v.ownBlock) (hb : a.heap.size ≤ base) : a.grownBy w' (some b) :=
  ⟨hg.os.trans h.os, hg.tape.trans h.tape, hg.output.trans h.output, Nat.le_trans h.size hg.size, fun i hi hne => (hg.block i (Nat.lt_of_lt_of_le hi h.size) (own_ne ho (by omega))).trans (h.block i hi hne)⟩
theorem BoxAt.append {w w' : World} {b base : Nat} {x0 x1 : Value} {e : TypeId} {size n : Nat} {v : Value} {xs : List Value} {o : Obj} (h : BoxAt w b x0 x1) (hown : w.ownsRow base e size v n xs) (hb : b < base) (hg : (w.alloc o).grownBy w' v.ownBlock) : BoxAt w' b x0 x1 :=
  (h.below ((Below.refl _ _).alloc (Nat.le_refl _) o)).grown hg (own_ne (hown.alloc o) hb)
theorem RowsOwn.at_grown {w w' : World} {base b : Nat} {us : List Value} {ll : List (List Int)} (h : RowsOwn w base us ll) (hg : w.grownBy w' (some b)) (hb : b < base) : RowsOwn w' base us ll :=
  ⟨h.1, fun j l hl => by
    obtain ⟨u, h1, h2⟩ := h.2 j l hl
    exact ⟨u, h1, h2.kept hg (.inr (fun e => own_ne h2 hb e.symm))⟩⟩

def OrderMid (w wx : World) (other : Value) (bx bz m : Nat) (ss : List Strat) (ll : List (List Int)) : Prop :=
  ∃ t Ax cx, t ≤ ss.length ∧ (0 < ss.length → t < ss.length) ∧ ss.length ≤ cx ∧ cx ≤ 9223372036854775807 ∧ BoxAt wx bx (.int .i64 (m : Int)) (.slice Ax ss.length cx) ∧ (∃ Ao co, other = .slice Ao ll.length co ∧ ll.length ≤ co ∧ co ≤ 9223372036854775807) ∧ (∀ W', wx.grownBy W' (some bz) → StrataAt W' (.slice Ax ss.length cx) (rotL t ss) ∧ RowsAt W' other (rotL t ll)) ∧
    BoxAt wx bz (.int .i64 (m : Int)) (.slice none 0 0) ∧ Below w.heap.size w wx

theorem vals_append {w : World} {xs ys : List Value} {a b : List Strat} (h1 : StrataVals w xs a) (h2 : StrataVals w ys b) : StrataVals w (xs ++ ys) (a ++ b) := by
  have e1 := h1.1
  refine ⟨by simp [h1.1, h2.1]; omega, fun j s hs => ?_⟩
  rw [List.getElem?_append] at hs
  split at hs
  · obtain ⟨q0, q1, q2, u, q3, q4⟩ := h1.2 j s hs
    refine ⟨?_, ?_, ?_, u, ?_, q4⟩
    · rw [List.getElem?_append_left (by omega)]; exact q0
    · rw [List.getElem?_append_left (by omega)]; exact q1
    · rw [List.getElem?_append_left (by omega)]; exact q2
    · rw [List.getElem?_append_left (by omega)]; exact q3
  · rename_i hj
    obtain ⟨q0, q1, q2, u, q3, q4⟩ := h2.2 (j - a.length) s hs
    refine ⟨?_, ?_, ?_, u, ?_, q4⟩
    · rw [List.getElem?_append_right (by omega), show j * 4 - xs.length = (j - a.length) * 4 by omega]; exact q0
    · rw [List.getElem?_append_right (by omega), show j * 4 + 1 - xs.length = (j - a.length) * 4 + 1 by omega]; exact q1
    · rw [List.getElem?_append_right (by omega), show j * 4 + 2 - xs.length = (j - a.length) * 4 + 2 by omega]; exact q2
    · rw [List.getElem?_append_right (by omega), show j * 4 + 3 - xs.length = (j - a.length) * 4 + 3 by omega]; exact q3

theorem truth_rot' {n : Int} {ss : List Strat} {ll : List (List Int)} (hf : faultI n ss = 0) (h : truthB n ss ll = true) {t : Nat} (ht : 0 < ss.length → t < ss.length) : truthB n (rotL t ss) (rotL t ll) = true := by
  by_cases h0 : 0 < ss.length
  · exact truth_rot hf h (ht h0)
  · have hl : ll.length = ss.length := by
      simp only [truthB, Bool.and_eq_true] at h
      exact (fit_of hf h.1).len
    obtain rfl : ss = [] := List.length_eq_zero_iff.1 (by omega)
    obtain rfl : ll = [] := List.length_eq_zero_iff.1 (by simpa using hl)
    simpa [rotL] using h

theorem Get_rot (m : Nat) (v u : Value) (ss : List Strat) (ll : List (List Int)) (t : Nat) (w : World) (hv : StrataAt w v (rotL t ss)) (hu : RowsAt w u (rotL t ll)) (hf : faultI m ss = 0) (hl : truthB m ss ll = true) (ht : t ≤ ss.length) (ht0 : 0 < ss.length → t < ss.length) :
    Calls Try.prog 21 #[.agg #[.int .i64 m, v], u] w (GivesGet w (getsL m ss ll) (fundI m ss ll)) := by
  have hlen : ll.length = ss.length := by
    simp only [truthB, Bool.and_eq_true] at hl
    exact (fit_of hf hl.1).len
  have := Get_ok m v u (rotL t ss) (rotL t ll) w hv hu (fault_rot hf ht) (truth_rot' hf hl ht0)
  rwa [gets_rot hlen ht, fund_rot hlen ht] at this

theorem Bounds_rot (m : Nat) (v : Value) (ss : List Strat) (t : Nat) (w : World) (hv : StrataAt w v (rotL t ss)) (hf : faultI m ss = 0) (ht : t ≤ ss.length) :
    Calls Try.prog 27 #[.agg #[.int .i64 m, v]] w (GivesPairs w (fun c => boundK ss c ss.length) m) := by
  have := Bounds_ok m v (rotL t ss) w hv (fault_rot hf ht)
  have e : (fun c => boundK (rotL t ss) c (rotL t ss).length) = fun c => boundK ss c ss.length := by
    funext c
    rw [rotL_len ht, bound_rot ss t c ht]
  rwa [e] at this

theorem Bounds_turn (m : Nat) (v : Value) (ss : List Strat) (k : Nat) (w : World) (hv : StrataAt w v (ss.map (turnS k))) (hf : faultI m ss = 0) (hk : k < m) :
    Calls Try.prog 27 #[.agg #[.int .i64 m, v]] w (GivesPairs w (fun c => boundK ss ((c + k) % m) ss.length) m) := by
  refine (Bounds_ok m v (ss.map (turnS k)) w hv (turn_fault hf (by omega))).mono ?_
  rintro e w' ⟨g, h1, h2, h3, h4⟩
  refine ⟨g, h1, h2, h3.congr fun c hc => ?_, h4⟩
  rw [List.length_map]
  exact (turn_bound hf hk hc ss.length (Nat.le_refl _)).symm

set_option maxRecDepth 100000 in
set_option maxHeartbeats 3200000 in
theorem Order_not (n : Int) (v : Value) (a1 : Int) (uw : Value) (ss : List Strat) (ws : List Int) (w : World) (hv : StrataAt w v ss) (h1 : 0 ≤ a1 ∧ a1 ≤ 255) (hz : NumsAt .u16 w uw ws) (hw : WordsOk ws) (ht : readyB n ss = false) :
    Calls Try.prog 7 #[.agg #[.int .i64 n, v], .int .u8 a1, uw] w (Gives w (.bool true)) := by
  have hb0 : Below w.heap.size w (w.alloc (.cells #[.int .i64 n, v] 24)) := (Below.refl _ _).alloc (Nat.le_refl _) _
  obtain ⟨A, c, rfl, hc, hm⟩ := hv.form
  go_enter Try.func7, Try.ntmps7
  have g0 : (w.alloc (.cells #[.int .i64 n, .slice A ss.length c] 24)).cell? ⟨w.heap.size, 0, none⟩ = some (.int .i64 n) := by simp [go_sem]
  have g1 : (w.alloc (.cells #[.int .i64 n, .slice A ss.length c] 24)).cell? ⟨w.heap.size, 1, none⟩ = some (.slice A ss.length c) := by simp [go_sem]
  go_wp2_with fail
  refine (Gives.to ht (ready_any n _ ss _ (hv.below hb0))).mono ?_; rintro e w1 ⟨rfl, hb1⟩
  have hw1 := hb0.trans (hb1.mono hb0.size)
  replace g0 := cell_below hb1 g0
  replace g1 := cell_below hb1 g1
  go_wp2_with fail
  refine (wakes_any _).mono ?_; rintro e w2 ⟨rfl, hb2⟩
  have hw2 := hw1.trans (hb2.mono hw1.size)
  replace g0 := cell_below hb2 g0
  replace g1 := cell_below hb2 g1
  go_wp2
  go_ret
  exact ⟨rfl, hw2⟩

set_option maxRecDepth 100000 in
set_option maxHeartbeats 3200000 in
theorem Order_ready (m : Nat) (v : Value) (a1 : Int) (uw : Value) (ss : List Strat) (ws : List Int) (w : World) (hv : StrataAt w v ss) (h1 : 0 ≤ a1 ∧ a1 ≤ 255) (hz : NumsAt .u16 w uw ws) (hw : WordsOk ws) (hr : readyB m ss = true) :
    Calls Try.prog 7 #[.agg #[.int .i64 m, v], .int .u8 a1, uw] w (Gives w (.bool true)) := by
  have hb0 : Below w.heap.size w (w.alloc (.cells #[.int .i64 m, v] 24)) := (Below.refl _ _).alloc (Nat.le_refl _) _
  obtain ⟨A, c, rfl, hc, hm⟩ := hv.form
  obtain ⟨ht, hf⟩ := ready_iff.1 hr
  obtain ⟨tl, tl9⟩ := thin_len ht
  have Htl := Lib.hid (fun (j : Nat) (s : Strat) (h : ss[j]? = some s) => Nat.le_trans (tl9 j s h) (by decide : 9 ≤ 1000))
  clear tl9
  have hs8 := (fault_zero hf).1
  have hn5 := (fault_zero hf).2.2.1
  have hn1 := (fault_zero hf).2.1
  have hm5 : m ≤ 5 := by omega
  obtain ⟨Aw, cw, rfl, hcw, hmw⟩ := hz.form
  have Hf := Lib.hid hf
  have Hval := Lib.hid (fault_zero hf).2.2.2
  obtain ⟨i0, hi0, hz0, hz1, hz2⟩ := info_parts info44
  obtain ⟨i5, hi5, hy0, hy1, hy2⟩ := info_parts info35
  obtain ⟨i3, hi3, hx0, hx1, hx2⟩ := info_parts info3
  clear hf ht
  go_enter Try.func7, Try.ntmps7
  have g0 : (w.alloc (.cells #[.int .i64 m, .slice A ss.length c] 24)).cell? ⟨w.heap.size, 0, none⟩ = some (.int .i64 m) := by simp [go_sem]
  have g1 : (w.alloc (.cells #[.int .i64 m, .slice A ss.length c] 24)).cell? ⟨w.heap.size, 1, none⟩ = some (.slice A ss.length c) := by simp [go_sem]
  go_wp2_with fail
  refine (Gives.to hr (ready_any m _ ss _ (hv.below hb0))).mono ?_; rintro e w1 ⟨rfl, hb1⟩
  have hw1 := hb0.trans (hb1.mono hb0.size)
  replace g0 := cell_below hb1 g0
  replace g1 := cell_below hb1 g1
  clear hr
  go_wp2_with fail
  refine (Truly_any m _ _ ss ws _ (hv.below hw1) (hz.below hw1) hw Hf.out).mono ?_; rintro e w2 ⟨ll, A2, c2, us2, htr, rfl, o2, q2, hb2⟩
  have hw2 := hw1.trans (hb2.mono hw1.size)
  replace g0 := cell_below hb2 g0
  replace g1 := cell_below hb2 g1
  have r2 := rows_of_own o2 q2
  have hll : ll.length = ss.length := by
    simp only [truthB, Bool.and_eq_true] at htr
    exact (fit_of Hf.out htr.1).len
  have hll1 := Nat.le_of_eq hll
  have hll2 := Nat.le_of_eq hll.symm
  have Hll := Lib.hid hll
  have Htr := Lib.hid htr
  have hlrow : ∀ (j : Nat) (l : List Int), ll[j]? = some l → l.length ≤ 1000 := fun j l hl => by
    simp only [truthB, Bool.and_eq_true] at htr
    have := (rowB_iff.1 ((fit_of Hf.out htr.1).row j l hl)).1
    omega
  have Hlrow := Lib.hid hlrow
  clear htr hll hlrow
  have hlt2 : w.heap.size < w2.heap.size := by have := World.block_lt_of_cell? w2 _ g0; simpa using this
  go_upto_region 4 with fail
  go_cut [8, 9] from 36 to 37 (fun x y wx => OrderBoxes w2 wx x y (.int .i64 (m : Int)) (.slice A ss.length c))
  case first =>
    go_region
    all_goals
      go_wp2_with fail
      go_meet
      case rel =>
        have hbc : Below w2.heap.size w2 ((w2.alloc (.cells #[.int .i64 m, .slice A ss.length c] 24)).alloc (.cells #[.int .i64 m, .slice A ss.length c] 24)).drew := (((Below.refl _ _).alloc (Nat.le_refl _) _).alloc (by simp) _).drew
        have b0 : BoxAt ((w2.alloc (.cells #[.int .i64 m, .slice A ss.length c] 24)).alloc (.cells #[.int .i64 m, .slice A ss.length c] 24)).drew w2.heap.size (.int .i64 m) (.slice A ss.length c) := ⟨by simp [go_sem], by simp [go_sem], by simp [go_sem], by first | (simp; done) | (simp; omega)⟩
        have b1 : BoxAt ((w2.alloc (.cells #[.int .i64 m, .slice A ss.length c] 24)).alloc (.cells #[.int .i64 m, .slice A ss.length c] 24)).drew (w2.heap.size + 1) (.int .i64 m) (.slice A ss.length c) := ⟨by simp [go_sem], by simp [go_sem], by simp [go_sem], by first | (simp; done) | (simp; omega)⟩
        first
          | exact ⟨w2.heap.size, w2.heap.size + 1, rfl, rfl, by omega, by omega, by omega, b0, b1, hbc⟩
          | exact ⟨w2.heap.size + 1, w2.heap.size, rfl, rfl, by omega, by omega, by omega, b1, b0, hbc⟩
  case rest =>
    obtain ⟨bx, bz, rfl, rfl, hne, hbx, hbz, BX, BZ, hbc⟩ := hcut
    have hw3 := hw2.trans (hbc.mono hw2.size)
    have k0 := cell_below hbc g0
    have k1 := cell_below hbc g1
    have z1 := BZ.c1
    have z2 := BZ.fz
    go_upto_region 6 with fail
    clear z1 z2
    have hb5 : Below w2.heap.size w2 (wc.setCell ⟨bz, 1, none⟩ (.slice none 0 0)) := hbc.setCell (p := ⟨bz, 1, none⟩) hbz _
    replace BX := BX.other (a := ⟨bz, 1, none⟩) (Ne.symm hne) (.slice none 0 0)
    replace BZ := BZ.set (.slice none 0 0)
    generalize hW5 : wc.setCell ⟨bz, 1, none⟩ (.slice none 0 0) = w5 at *
    clear hW5 hbc hw3 k0 k1
    have r5 := r2.below hb5
    go_upto_region 7 with (go_at_call 22; refine (rows_any _ ll _ r5 (by omega) Hlrow.out).mono ?_; rintro e w6 ⟨A6, c6, us6, rfl, o6, q6, hb6⟩)
    have hb56 := hb5.trans (hb6.mono hb5.size)
    replace BX := BX.below hb6
    replace BZ := BZ.below hb6
    have r6 := rows_of_own o6 q6
    clear o6 q6 r5
    have k0 := cell_below hb56 g0
    have k1 := cell_below hb56 g1
    go_upto_if 45 with fail
    go_cut [10, 12] from 45 to 70 (fun other tt wx => OrderMid w2 wx other bx bz m ss ll)
    case first =>
      by_cases hpos : 0 < ss.length
      · have hposI : (0 : Int) < (ss.length : Int) := by omega
        obtain ⟨t, ht, ht'⟩ : ∃ t : Nat, a1 % (ss.length : Int) = (t : Int) ∧ t < ss.length := ⟨(a1 % (ss.length : Int)).toNat, by have := Int.emod_nonneg a1 (b := (ss.length : Int)) (by omega); omega, by have := Int.emod_lt_of_pos a1 (b := (ss.length : Int)) (by omega); omega⟩
        go_upto_region 10 with fail
        rw [ht]
        have htI : (t : Int) < (ss.length : Int) := by omega
        have htc : t < c := by omega
        have htcI : (t : Int) < (c : Int) := by omega
        have htl : (t : Int) ≤ (ll.length : Int) := by omega
        obtain ⟨b, o, rfl, hvd⟩ := hv.drop ht'
        have hvt := hv.take (t := t) (by omega)
        obtain ⟨xs1, src1, vals1, one1⟩ := vals_of_strata hvd
        obtain ⟨xs2, src2, vals2, one2⟩ := vals_of_strata hvt
        rw [List.length_drop] at src1
        rw [List.length_take, Nat.min_eq_left (by omega)] at src2
        have hvals := vals_append vals1 vals2
        clear ht hvd hvt vals1 vals2
        have hw6 := hw2.trans (hb56.mono hw2.size)
        obtain ⟨b2, o2, rfl, rvd⟩ := r2.drop (t := t) (by omega)
        have rvt := r2.take (t := t) (by omega)
        obtain ⟨_, c2', e2, hc2, hm2, _⟩ := r2
        cases e2
        unfold maxLen at hm2
        have htc2 : t < c2 := by omega
        have htc2I : (t : Int) < (c2 : Int) := by omega
        have hsz6 : w.heap.size < w6.heap.size := by have := hb56.size; omega
        have hbx6 := BX.lt
        have hbz6 := BZ.lt
        refine wp_region_noPanic ?_
        refine wp_region_phS [([1, 2, 3, 4, 6, 7, 8, 9], [0, 5, 10, 11, 12])] (fun _ => true) (fun w' => w'.cell? ⟨w.heap.size, 0, none⟩ = some (.int .i64 m) ∧ w'.cell? ⟨w.heap.size, 1, none⟩ = some (.slice (some ⟨b, o, none⟩) ss.length c)) (by kernel_rfl) (by kernel_rfl) (fun _ _ _ _ _ h => h) ?_
        replace BX := BX.below (Below.refl _ _).drew
        replace BZ := BZ.below (Below.refl _ _).drew
        replace r6 := r6.below (Below.refl _ _).drew
        replace k0 := cell_below (Below.refl _ _).drew k0
        replace k1 := cell_below (Below.refl _ _).drew k1
        replace hb56 := hb56.drew
        replace hw6 := hw6.drew
        have hs0 : w6.drew.heap.size = w6.heap.size := rfl
        rw [← hs0] at hsz6 hbx6 hbz6
        clear hs0
        generalize w6.drew = w7 at *
        replace g0 := k0
        replace g1 := k1
        refine wpPhS_cons ⟨g0, g1⟩ (fun hne => ?_)
        have m0 := fun x : Meets (fun w' => w'.cell? ⟨w.heap.size, 0, none⟩ = some (.int .i64 m) ∧ w'.cell? ⟨w.heap.size, 1, none⟩ = some (.slice (some ⟨b, o, none⟩) ss.length c)) => x.property
        have x0 := fun x => (m0 x).1
        have x1 := fun x => (m0 x).2
        clear m0
        simp only [pick, pickN, List.filterMap_cons, List.filterMap_nil, List.getElem?_cons_zero, List.getElem?_cons_succ, Option.map_some]
        repeat (change wpQuiet _ _ _ _ (_ :: _) _; go_big_quiet_step (fail))
        refine wpQuiet_nil ?_
        clear x0 x1 hne
        refine wpSeqK_step (fun K hK => ?_)
        go_simp
        have hA0 : Below w7.heap.size w7 (w7.alloc (.cells #[] 44)) := (Below.refl _ _).alloc (Nat.le_refl _) _
        replace g0 := cell_below hA0 g0
        replace g1 := cell_below hA0 g1
        replace BX := BX.below hA0
        replace BZ := BZ.below hA0
        replace r6 := r6.below hA0
        refine hK.out _ _ (fun _ => ⟨g0, g1⟩) ?_
        clear hK K
        have ho : (w7.alloc (.cells #[] 44)).ownsRow w7.heap.size 44 4 (.slice (some ⟨w7.heap.size, 0, none⟩) 0 0) 0 [] := World.ownsRow_lit w7 #[] 0 (Nat.le_refl _) (by simp [maxLen]) (by simp)
        have hsw := hw6.trans (hA0.mono hw6.size)
        refine wpSeqK_step (fun K hK => ?_)
        refine step_append_src _ rfl (.tmp 50) (.tmp 54) 22 rfl w7.heap.size 44 i0 _ 4 48 Try.underlying22 hi0 hz0 hz1 hz2 rfl (by omega) (.slice (some ⟨w7.heap.size, 0, none⟩) 0 0) 0 [] rfl ho (some ⟨b, o + t * 4, none⟩) (ss.length - t) (c - t) xs1 rfl (src_below src1 hsw) one1 (by simp [maxLen]; omega) (by omega) hA0.size ?_
        intro A8 c8 w8 hown8 hg8
        simp only [Nat.zero_add, List.nil_append] at hown8 ⊢
        have hA8 : Below w7.heap.size w7 w8 := below_grown hA0 hg8 hA0.size ho (Nat.le_refl _)
        have hob : ∀ q, (Value.slice (some ⟨w7.heap.size, 0, none⟩) 0 0).ownBlock = some q → q = w7.heap.size := fun q e => (Option.some.inj e).symm
        have hgne : ∀ q, q < w7.heap.size → some q ≠ (Value.slice (some ⟨w7.heap.size, 0, none⟩) 0 0).ownBlock := fun q hq e => by have := hob q e.symm; omega
        replace g0 := hg8.cell g0 (hgne _ (by simp only; omega))
        replace g1 := hg8.cell g1 (hgne _ (by simp only; omega))
        replace BX := BX.grown hg8 (hgne _ hbx6)
        replace BZ := BZ.grown hg8 (hgne _ hbz6)
        clear hob hgne
        refine hK.out _ _ (fun _ => ⟨g0, g1⟩) ?_
        clear hK K
        have hw8 := hw6.trans (hA8.mono hw6.size)
        refine wpSeqK_step (fun K hK => ?_)
        refine step_append_src _ rfl (.tmp 55) (.tmp 59) 22 rfl w7.heap.size 44 i0 _ 4 48 Try.underlying22 hi0 hz0 hz1 hz2 rfl (by omega) (.slice A8 (ss.length - t) c8) (ss.length - t) xs1 rfl hown8 (some ⟨b, o, none⟩) t c xs2 rfl (src_below src2 hw8) one2 (by simp [maxLen]; omega) (by omega) hA8.size ?_
        intro A9 c9 w9 hown9 hg9
        simp only [Nat.sub_add_cancel (Nat.le_of_lt ht')] at hown9 ⊢
        have hA9 : Below w7.heap.size w7 w9 := below_grown hA8 hg9 hA8.size hown8 (Nat.le_refl _)
        replace g0 := hg9.cell g0 (own_ne hown8 (by simp only; omega))
        replace g1 := hg9.cell g1 (own_ne hown8 (by simp only; omega))
        replace BX := BX.grown hg9 (own_ne hown8 hbx6)
        replace BZ := BZ.grown hg9 (own_ne hown8 hbz6)
        refine hK.out _ _ (fun _ => ⟨g0, g1⟩) ?_
        clear hK K
        refine wpSeqK_step (fun K hK => ?_)
        go_simp
        refine hK.out _ _ (fun _ => ⟨g0, g1⟩) ?_
        clear hK K
        have hw9 := hw6.trans (hA9.mono hw6.size)
        have z1 := BX.c1
        have z2 := BX.fz
        obtain ⟨hc9, hm9⟩ := own_cap hown9
        have hown10 := ownsRow_setCell_below hown9 (a := ⟨bx, 1, none⟩) (by simp only; exact hbx6) (.slice A9 ss.length c9)
        have hbA : Below w2.heap.size w2 (w9.setCell ⟨bx, 1, none⟩ (.slice A9 ss.length c9)) := (hb56.trans (hA9.mono hb56.size)).setCell (p := ⟨bx, 1, none⟩) hbx _
        have f0 : (w9.setCell ⟨bx, 1, none⟩ (.slice A9 ss.length c9)).cell? ⟨w.heap.size, 0, none⟩ = some (.int .i64 m) := (World.cell?_setCell_other _ _ _ _ (fun e => by have := congrArg Addr.block e; simp only at this; omega)).trans g0
        have f1 : (w9.setCell ⟨bx, 1, none⟩ (.slice A9 ss.length c9)).cell? ⟨w.heap.size, 1, none⟩ = some (.slice (some ⟨b, o, none⟩) ss.length c) := (World.cell?_setCell_other _ _ _ _ (fun e => by have := congrArg Addr.block e; simp only at this; omega)).trans g1
        refine wpSeqK_step (fun K hK => ?_)
        go_simp
        refine hK.out _ _ (fun _ => ⟨f0, f1⟩) ?_
        clear hK K z1 z2
        have BXA := BX.set (.slice A9 ss.length c9)
        have BZA := BZ.other (a := ⟨bx, 1, none⟩) hne (.slice A9 ss.length c9)
        have hvA := hvals.below (hw2.trans (hbA.mono hw2.size))
        have hownA := hown10
        have hvA0 := hvals
        generalize hWA : w9.setCell ⟨bx, 1, none⟩ (.slice A9 ss.length c9) = wA at *
        clear hWA hown8 hown9 hown10 hg8 hg9 hA8 hA9 BX BZ g0 g1 hvals hvA src1 src2 one1 one2 ho hA0 hw8 hw9 hsw
        refine wpSeqK_nil ?_
        refine wpPhS_nil ?_
        refine NoPanic.normal ?_
        go_upto_region 11 with fail
        have rdA := rvd.below hbA
        have rtA := rvt.below hbA
        refine wp_region_noPanic ?_
        refine wp_region_phS [([0, 1, 2, 4, 5, 6], [3, 7, 8, 9])] (fun _ => true) (fun _ => True) (by kernel_rfl) (by kernel_rfl) (fun _ _ _ _ _ h => h) ?_
        have hB0 : Below wA.heap.size wA wA.drew := (Below.refl _ _).drew
        refine wpPhS_cons trivial (fun hne => ?_)
        simp only [pick, pickN, List.filterMap_cons, List.filterMap_nil, List.getElem?_cons_zero, List.getElem?_cons_succ, Option.map_some]
        repeat (change wpQuiet _ _ _ _ (_ :: _) _; go_big_quiet_step (fail))
        refine wpQuiet_nil ?_
        refine wpSeqK_step (fun K hK => ?_)
        go_simp
        refine (rows_any _ (ll.drop t) _ (rdA.below hB0) (by simp; omega) (fun j l hj => Hlrow.out (t + j) l (by rw [← List.getElem?_drop]; exact hj))).mono ?_
        rintro e w10 ⟨A10, c10, us10, rfl, o10, q10, hb10⟩
        have hB10 := hB0.trans (hb10.mono hB0.size)
        refine hK.out _ _ (fun _ => trivial) ?_
        clear hK K
        refine wpSeqK_step (fun K hK => ?_)
        go_simp
        have htake : (ll.take t).length = t := by rw [List.length_take, Nat.min_eq_left (by omega)]
        refine (rows_any _ (ll.take t) _ (rtA.below hB10) (by omega) (fun j l hj => by
          rw [List.getElem?_take] at hj
          split at hj
          · exact Hlrow.out j l hj
          · cases hj)).mono ?_
        rintro e w11 ⟨A11, c11, us11, rfl, o11, q11, hb11⟩
        have hB11 := hB10.trans (hb11.mono hB10.size)
        have o10' := own_below o10 hb11
        have q10' := q10.below hb11
        have s10 := hb10.size
        have s11 := hb11.size
        have sB10 := hB10.size
        have sB11 := hB11.size
        refine hK.out _ _ (fun _ => trivial) ?_
        clear hK K
        have hdrop : (ll.drop t).length = ll.length - t := by rw [List.length_drop]
        rw [hdrop] at o10'
        rw [htake] at o11
        try rw [hdrop]
        try rw [htake]
        try rw [Nat.min_eq_left (by omega : t ≤ ll.length)]
        refine wpSeqK_step (fun K hK => ?_)
        refine step_append_src _ rfl (.tmp 65) (.tmp 69) 25 rfl wA.drew.heap.size 35 i5 _ 1 24 Try.underlying25 hi5 hy0 hy1 hy2 rfl (by omega) (.slice A10 (ll.length - t) c10) (ll.length - t) us10 rfl o10' A11 t c11 us11 rfl (src_of_own o11) (rows_one q11) (by simp [maxLen]; omega) (by omega) (by omega) ?_
        intro A12 c12 w12 o12 hg12
        have hB12 : Below wA.heap.size wA w12 := below_grown hB11 hg12 sB11 o10' (Nat.le_refl _)
        have q12 : RowsOwn w12 wA.heap.size (us10 ++ us11) (rotL t ll) := rows_append (q10'.kept o10' (by decide) hg12) ((q11.mono (by omega)).kept o10' (by decide) hg12)
        have r12 : RowsAt w12 (.slice A12 (ll.length - t + t) c12) (rotL t ll) := rows_of_own o12 q12
        refine hK.out _ _ (fun _ => trivial) ?_
        clear hK K
        refine wpSeqK_step (fun K hK => ?_)
        go_simp
        refine hK.out _ _ (fun _ => trivial) ?_
        clear hK K
        refine wpSeqK_nil ?_
        refine wpPhS_nil ?_
        refine NoPanic.normal ?_
        go_wp2_with fail
        go_meet
        case rel => 
          refine ⟨t, A9, c9, by omega, fun _ => ht', hc9, hm9, BXA.below hB12, ⟨A12, c12, by rw [Nat.sub_add_cancel (by omega)], by have := (own_cap o12).1; omega, (own_cap o12).2⟩, fun W' hg => ⟨?_, ?_⟩, BZA.below hB12, hbA.trans (hB12.mono hbA.size)⟩
          · have h1 := (own_below hownA hB12).kept hg (.inr (fun e => own_ne (own_below hownA hB12) hbz6 e.symm))
            exact strata_of_vals h1 (hvA0.below (below_grownAt (hw2.trans ((hbA.trans (hB12.mono hbA.size)).mono hw2.size)) hg (by have := hw2.size; omega) (by have := hw2.size; have := hbA.size; have := hB12.size; omega)))
          · have h1 := o12.kept hg (.inr (fun e => own_ne o12 BZA.lt e.symm))
            exact rows_of_own h1 (q12.at_grown hg BZA.lt)
      · have hposI : ¬ (0 : Int) < (ss.length : Int) := by omega
        have e1 : rotL 0 ss = ss := by simp [rotL]
        have e2 : rotL 0 ll = ll := by simp [rotL]
        go_wp2_with fail
        go_meet
        case rel =>
          have hsn : ss = [] := List.length_eq_zero_iff.1 (by omega)
          have hln : ll = [] := List.length_eq_zero_iff.1 (by omega)
          obtain ⟨_, c6', e6, hc6, hm6, _⟩ := r6
          cases e6
          refine ⟨0, A, c, by omega, by omega, hc, hm, BX, ⟨A6, c6, rfl, hc6, hm6⟩, fun W' hg => ⟨?_, ?_⟩, BZ, hb56⟩
          · rw [e1, hsn]; exact ⟨A, c, rfl, by simp, hm, by simp⟩
          · rw [e2, hln]; exact ⟨A6, c6, rfl, by simp, hm6, by simp⟩
    case rest =>
      obtain ⟨t, Ax, cx, ht, ht0, hcx, hmx, BX3, ⟨Ao, co, rfl, hco, hmo⟩, hst, BZ3, hbm⟩ := hcut
      rename World => wx
      clear BX BZ r6 k0 k1 hb56 hb5 hb6
      have hb2 := hw2.trans (hbm.mono hw2.size)
      have k0 := cell_below hbm g0
      have k1 := cell_below hbm g1
      obtain ⟨k, hk, hk'⟩ : ∃ k : Nat, a1 % (m : Int) = (k : Int) ∧ k < m := ⟨(a1 % (m : Int)).toNat, by have := Int.emod_nonneg a1 (b := (m : Int)) (by omega); omega, by have := Int.emod_lt_of_pos a1 (b := (m : Int)) (by omega); omega⟩
      have hkI : (k : Int) < (m : Int) := by omega
      have Hst := Lib.hid hst
      have Ht0 := Lib.hid ht0
      clear hst ht0
      have hbzx := BZ3.lt
      have hbxx := BX3.lt
      have hwlt : w.heap.size < wx.heap.size := by have := hbm.size; omega
      go_upto_region 13 with fail
      rw [hk]
      clear hk
      go_wp2_with fail
      go_loopw [14] (fun x wr => ∃ (i : Nat) (Ay : Option Addr) (cy : Nat) (us : List Value), i ≤ ss.length ∧ x = .int .i64 i ∧ wx.grownBy wr (some bz) ∧ BoxAt wr bz (.int .i64 (m : Int)) (.slice Ay i cy) ∧
          wr.ownsRow wx.heap.size 44 4 (.slice Ay i cy) i us ∧ StrataOwn wr wx.heap.size us ((ss.map (turnS k)).take i)) (fun x wr => ss.length - (intOf x).toNat)
      case atStart => exact ⟨0, none, 0, [], by omega, rfl, grown_refl _ _, BZ3, World.ownsRow_nil _ _ _ _, ⟨by simp, by intro j l h; simp at h⟩⟩
      case round =>
        obtain ⟨i, Ay, cy, us, hi, rfl, hgr, BZr, hown, hso⟩ := hrel
        obtain ⟨wr, rfl⟩ : ∃ wq : World, wq = wr := ⟨_, rfl⟩
        have hsz := hgr.size
        have BXr := BX3.grown hgr (fun e => hne (Option.some.inj e))
        have f0 := hgr.cell k0 (fun e => by have := Option.some.inj e; simp only at this; omega)
        have f1 := hgr.cell k1 (fun e => by have := Option.some.inj e; simp only at this; omega)
        have hbw : Below w.heap.size w wr := below_grownAt hb2 hgr (by omega) (by omega)
        by_cases hlt : i < ss.length
        · have hltI : (i : Int) < (ss.length : Int) := by omega
          obtain ⟨b, o, s, y, rfl, hs, hy, e0, e1, e2, e3, hby⟩ := (hv.below hbw).at_ hlt
          have hst := Hval.out i s hs
          have hsn := (stratB_iff.1 hst).2.2.2.2.1
          have hks : k < s.seen.length := by omega
          have hksI : (k : Int) < (s.seen.length : Int) := by omega
          have hs5 : s.seen.length ≤ 5 := by omega
          have Hs := Lib.hid hs
          have Hso := Lib.hid hso
          clear hs hst hsn hso
          obtain ⟨By, cyy, rfl, hcy, hmy⟩ := hy.form
          obtain ⟨b2, o2', rfl, hyd⟩ := hy.drop hks
          have hyt := hy.take (t := k) (by omega)
          have hkc : k < cyy := by omega
          have hkcI : (k : Int) < (cyy : Int) := by omega
          have hkl : (k : Int) ≤ (s.seen.length : Int) := by omega
          go_upto_region 17 with fail
          have hB0 : Below wr.heap.size wr (wr.alloc (.cells #[.int .i64 s.coins, .int .i64 s.lo, .int .i64 s.hi, .slice (some ⟨b2, o2', none⟩) s.seen.length cyy] 44)).drew := ((Below.refl _ _).alloc (Nat.le_refl _) _).drew
          have p0 : (wr.alloc (.cells #[.int .i64 s.coins, .int .i64 s.lo, .int .i64 s.hi, .slice (some ⟨b2, o2', none⟩) s.seen.length cyy] 44)).drew.cell? ⟨wr.heap.size, 0, none⟩ = some (.int .i64 s.coins) := by simp [go_sem]
          have p1 : (wr.alloc (.cells #[.int .i64 s.coins, .int .i64 s.lo, .int .i64 s.hi, .slice (some ⟨b2, o2', none⟩) s.seen.length cyy] 44)).drew.cell? ⟨wr.heap.size, 1, none⟩ = some (.int .i64 s.lo) := by simp [go_sem]
          have p2 : (wr.alloc (.cells #[.int .i64 s.coins, .int .i64 s.lo, .int .i64 s.hi, .slice (some ⟨b2, o2', none⟩) s.seen.length cyy] 44)).drew.cell? ⟨wr.heap.size, 2, none⟩ = some (.int .i64 s.hi) := by simp [go_sem]
          have p3 : (wr.alloc (.cells #[.int .i64 s.coins, .int .i64 s.lo, .int .i64 s.hi, .slice (some ⟨b2, o2', none⟩) s.seen.length cyy] 44)).drew.cell? ⟨wr.heap.size, 3, none⟩ = some (.slice (some ⟨b2, o2', none⟩) s.seen.length cyy) := by simp [go_sem]
          have pz : (wr.alloc (.cells #[.int .i64 s.coins, .int .i64 s.lo, .int .i64 s.hi, .slice (some ⟨b2, o2', none⟩) s.seen.length cyy] 44)).drew.frozen? ⟨wr.heap.size, 3, none⟩ = false := by simp [go_sem]
          have ps : wr.heap.size < (wr.alloc (.cells #[.int .i64 s.coins, .int .i64 s.lo, .int .i64 s.hi, .slice (some ⟨b2, o2', none⟩) s.seen.length cyy] 44)).drew.heap.size := by simp
          refine wp_region_noPanic ?_
          refine wp_region_phS [([0, 1, 2, 3, 5, 6, 7, 8], [4, 9, 10, 11])] (fun j => j != 11) (fun w' => w'.cell? ⟨wr.heap.size, 3, none⟩ = some (.slice (some ⟨b2, o2', none⟩) s.seen.length cyy)) (by kernel_rfl) (by kernel_rfl) (fun _ _ _ _ _ h => h) ?_
          refine wpPhS_cons p3 (fun hne => ?_)
          have x0 := fun x : Meets (fun w' => w'.cell? ⟨wr.heap.size, 3, none⟩ = some (.slice (some ⟨b2, o2', none⟩) s.seen.length cyy)) => x.property
          generalize (wr.alloc (.cells #[.int .i64 s.coins, .int .i64 s.lo, .int .i64 s.hi, .slice (some ⟨b2, o2', none⟩) s.seen.length cyy] 44)).drew = wM at *
          simp only [pick, pickN, List.filterMap_cons, List.filterMap_nil, List.getElem?_cons_zero, List.getElem?_cons_succ, Option.map_some]
          repeat (change wpQuiet _ _ _ _ (_ :: _) _; go_big_quiet_step (fail))
          refine wpQuiet_nil ?_
          clear x0 hne
          refine wpSeqK_step (fun K hK => ?_)
          go_simp
          refine (list_any _ (s.seen.drop k) _ (hyd.below hB0) (by simp; omega)).mono ?_
          rintro e w17 ⟨A17, c17, rfl, o17, hb17⟩
          have hB17 := hB0.trans (hb17.mono hB0.size)
          replace p0 := cell_below hb17 p0
          replace p1 := cell_below hb17 p1
          replace p2 := cell_below hb17 p2
          replace p3 := cell_below hb17 p3
          replace pz : w17.frozen? ⟨wr.heap.size, 3, none⟩ = false := (hb17.frozen (p := ⟨wr.heap.size, 3, none⟩) ps).trans pz
          refine hK.out _ _ (fun _ => p3) ?_
          clear hK K
          have htk : (s.seen.take k).length = k := by rw [List.length_take, Nat.min_eq_left (by omega)]
          have hdk : (s.seen.drop k).length = s.seen.length - k := by rw [List.length_drop]
          have src17 := src_of_nums (hyt.below hB17)
          rw [htk] at src17
          rw [hdk] at o17
          try rw [hdk]
          refine wpSeqK_step (fun K hK => ?_)
          refine step_append_src _ rfl (.tmp 92) (.tmp 96) 35 rfl wM.heap.size 3 i3 _ 1 8 Try.underlying35 hi3 hx0 hx1 hx2 rfl (by omega) (.slice A17 (s.seen.length - k) c17) (s.seen.length - k) _ rfl o17 (some ⟨b2, o2', none⟩) k cyy ((s.seen.take k).map (.int .i64)) rfl src17 (ints_one _) (by simp [maxLen]; omega) (by omega) hb17.size ?_
          intro A18 c18 w18 o18 hg18
          have hB18 : Below wr.heap.size wr w18 := below_grown hB17 hg18 hB17.size o17 (by omega)
          simp only [Nat.sub_add_cancel (Nat.le_of_lt hks)] at o18 ⊢
          replace p0 := hg18.cell p0 (own_ne o17 ps)
          replace p1 := hg18.cell p1 (own_ne o17 ps)
          replace p2 := hg18.cell p2 (own_ne o17 ps)
          replace p3 := hg18.cell p3 (own_ne o17 ps)
          replace pz : w18.frozen? ⟨wr.heap.size, 3, none⟩ = false := (World.frozen?_of_block (hg18.block _ (by have := hb17.size; simp only; omega) (own_ne o17 ps))).trans pz
          refine hK.out _ _ (fun _ => p3) ?_
          clear hK K
          refine wpSeqK_step (fun K hK => ?_)
          go_simp
          refine hK.out _ _ (fun _ => p3) ?_
          clear hK K
          refine wpSeqK_step (fun K hK => ?_)
          go_simp
          refine hK.out _ _ (fun h => by cases h) ?_
          clear hK K
          refine wpSeqK_nil ?_
          refine wpPhS_nil ?_
          refine NoPanic.normal ?_
          have hBS : Below wr.heap.size wr (w18.setCell ⟨wr.heap.size, 3, none⟩ (.slice A18 s.seen.length c18)) := hB18.setCell (p := ⟨wr.heap.size, 3, none⟩) (Nat.le_refl _) _
          have q0 : (w18.setCell ⟨wr.heap.size, 3, none⟩ (.slice A18 s.seen.length c18)).cell? ⟨wr.heap.size, 0, none⟩ = some (.int .i64 s.coins) := (World.cell?_setCell_other _ _ _ _ (by simp)).trans p0
          have q1 : (w18.setCell ⟨wr.heap.size, 3, none⟩ (.slice A18 s.seen.length c18)).cell? ⟨wr.heap.size, 1, none⟩ = some (.int .i64 s.lo) := (World.cell?_setCell_other _ _ _ _ (by simp)).trans p1
          have q2' : (w18.setCell ⟨wr.heap.size, 3, none⟩ (.slice A18 s.seen.length c18)).cell? ⟨wr.heap.size, 2, none⟩ = some (.int .i64 s.hi) := (World.cell?_setCell_other _ _ _ _ (by simp)).trans p2
          have q3 : (w18.setCell ⟨wr.heap.size, 3, none⟩ (.slice A18 s.seen.length c18)).cell? ⟨wr.heap.size, 3, none⟩ = some (.slice A18 s.seen.length c18) := World.cell?_setCell_same' _ _ _ (by rw [p3]; rfl)
          have oS := ownsRow_setCell_below o18 (a := ⟨wr.heap.size, 3, none⟩) ps (.slice A18 s.seen.length c18)
          have hss := hBS.size
          generalize hWS : w18.setCell ⟨wr.heap.size, 3, none⟩ (.slice A18 s.seen.length c18) = wS at *
          clear hWS p0 p1 p2 p3 pz o18 o17 hg18 hB18 hB17 hb17 hB0 src17 hyd hyt
          have hrot : (turnS k s).seen = rotL k s.seen := rfl
          have hlen : (turnS k s).seen.length = s.seen.length := by rw [hrot, rotL_len (by omega)]
          have hnew : wS.ownsRow wM.heap.size 3 1 (.slice A18 (turnS k s).seen.length c18) (turnS k s).seen.length ((turnS k s).seen.map (.int .i64)) := by
            rw [hlen, hrot]
            unfold rotL
            rw [List.map_append]
            exact oS
          have BZS := BZr.below hBS
          have z0 := BZS.c1
          have hownS := own_below hown hBS
          have Hso1 := Hso.out.below hBS
          have f0S := cell_below hBS f0
          have f1S := cell_below hBS f1
          have HsoS := Lib.hid Hso1
          have Hnew := Lib.hid hnew
          have Hlen := Lib.hid hlen
          clear hrot hlen hnew Hso1 htk hdk oS
          go_wp2_with (at_builtin; refine wpList_append_src _ rfl (.tmp 100) (.tmp 102) 22 rfl wx.heap.size 44 i0 _ 4 48 Try.underlying22 hi0 hz0 hz1 hz2 rfl (by omega) _ i us rfl (hownS.alloc _) (some ⟨wS.heap.size, 0, none⟩) 1 1 [.int .i64 s.coins, .int .i64 s.lo, .int .i64 s.hi, .slice A18 s.seen.length c18] rfl (src_new wS [.int .i64 s.coins, .int .i64 s.lo, .int .i64 s.hi, .slice A18 s.seen.length c18] 44 1 4 rfl) (by simp [Value.oneCell']) (by simp [maxLen]; omega) (by omega) (by simp; omega) ?_; intro v20 w20 hown20 hg20 hat20; obtain ⟨A20, c20, rfl⟩ := own_form hown20; have BZ5 := BZS.append hownS hbzx hg20; have z1 := BZ5.c1; have z2 := BZ5.fz)
          have hg21 : (wS.alloc (.cells #[.int .i64 s.coins, .int .i64 s.lo, .int .i64 s.hi, .slice A18 s.seen.length c18] 44)).grownBy w20 (Value.slice Ay i cy).ownBlock := hg20
          clear hg20 z1 z2
          have hgS : wx.grownBy (wS.alloc (.cells #[.int .i64 s.coins, .int .i64 s.lo, .int .i64 s.hi, .slice A18 s.seen.length c18] 44)) (some bz) :=
            grown_trans (grown_trans hgr (grown_of_below hBS _)) (grown_of_below ((Below.refl _ _).alloc (Nat.le_refl _) _) _)
          have hgT := grown_own hgS (hownS.alloc _) hg21 (Nat.le_refl _)
          go_roundw
          case rel =>
            refine ⟨i + 1, A20, c20, us ++ [.int .i64 s.coins, .int .i64 s.lo, .int .i64 s.hi, .slice A18 s.seen.length c18], by omega, by go_num, grown_trans hgT (grown_set 1 _), BZ5.set _, ownsRow_setCell_below hown20 (by simp only; exact hbzx) _, ?_⟩
            have ey : (ss.map (turnS k))[i]? = some (turnS k s) := by simp [Hs.out]
            rw [List.take_add_one, ey]
            have h1 : StrataOwn (wS.alloc (.cells #[.int .i64 s.coins, .int .i64 s.lo, .int .i64 s.hi, .slice A18 s.seen.length c18] 44)) wx.heap.size us ((ss.map (turnS k)).take i) := HsoS.out.below ((Below.refl _ _).alloc (Nat.le_refl _) _)
            have h2 := h1.kept (hownS.alloc _) (by decide) hg21
            have h3 := own_mono ((Hnew.out.alloc (.cells #[.int .i64 s.coins, .int .i64 s.lo, .int .i64 s.hi, .slice A18 s.seen.length c18] 44)).kept hg21 (own_apart Hnew.out hownS (by decide))) (base' := wx.heap.size) (by omega)
            have h4 := (h2.snoc h3).set (a := ⟨bz, 1, none⟩) (by simp only; exact hbzx) (.slice A20 (i + 1) c20)
            rw [Hlen.out] at h4
            exact h4
          case measure => simp [intOf]; omega
        · obtain rfl : i = ss.length := by omega
          have hso' := hso
          rw [List.take_of_length_le (by simp)] at hso'
          have sy := strata_of_own hown hso'
          obtain ⟨sx, rx⟩ := Hst.out wr hgr
          have hbr2 : Below w2.heap.size w2 wr := below_grownAt hbm hgr hbz (by omega)
          have r3 := r2.below hbr2
          clear hso hso' hown
          have X0 := BXr.c0
          have X1 := BXr.c1
          have Y0 := BZr.c0
          have Y1 := BZr.c1
          have hxl : (rotL t ss).length = ss.length := rotL_len ht
          have hxl8 := Nat.le_of_eq hxl
          have hyl8 : (ss.map (turnS k)).length ≤ 8 := by simpa using hs8
          have HtlX : Hid (∀ (j : Nat) (s' : Strat), (rotL t ss)[j]? = some s' → s'.seen.length ≤ 1000) := by
            intro j s' hj
            obtain ⟨i', hi', rfl⟩ := List.getElem_of_mem (rotL_mem (List.mem_of_getElem? hj))
            exact Htl.out i' _ (List.getElem?_eq_getElem hi')
          have HtlY : Hid (∀ (j : Nat) (s' : Strat), (ss.map (turnS k))[j]? = some s' → s'.seen.length ≤ 1000) := by
            intro j s' hj
            rw [List.getElem?_map] at hj
            cases e : ss[j]? with
            | none => rw [e] at hj; cases hj
            | some s0 =>
              rw [e] at hj
              cases hj
              have h1 := Htl.out j s0 e
              have hlen := (stratB_iff.1 (Hval.out j s0 e)).2.2.2.2.1
              show (rotL k s0.seen).length ≤ 1000
              rw [rotL_len (by omega)]
              exact h1
          clear hxl BXr BZr
          go_wp2_with fail
          refine (Pool_any m _ ss _ (hv.below hbw) (by omega) Htl.out).mono ?_; rintro e w50 ⟨v50, rfl, s50, hb50⟩
          have hw50 := hbw.trans (hb50.mono hbw.size)
          replace f0 := cell_below hb50 f0
          replace f1 := cell_below hb50 f1
          replace X0 := cell_below hb50 X0
          replace X1 := cell_below hb50 X1
          replace Y0 := cell_below hb50 Y0
          replace Y1 := cell_below hb50 Y1
          replace sx := sx.below hb50
          replace rx := rx.below hb50
          replace sy := sy.below hb50
          replace r3 := r3.below hb50
          obtain ⟨A50, c50, rfl, hc50, hm50⟩ := s50.form
          go_wp2_with fail
          refine (Bounds_ok m _ ss _ s50 Hf.out).mono ?_; rintro e w51 ⟨gb1, rfl, hgb1, ob1, hb51⟩
          have hw51 := hw50.trans (hb51.mono hw50.size)
          replace f0 := cell_below hb51 f0
          replace f1 := cell_below hb51 f1
          replace X0 := cell_below hb51 X0
          replace X1 := cell_below hb51 X1
          replace Y0 := cell_below hb51 Y0
          replace Y1 := cell_below hb51 Y1
          replace sx := sx.below hb51
          replace rx := rx.below hb51
          replace sy := sy.below hb51
          replace r3 := r3.below hb51
          replace s50 := s50.below hb51
          go_wp2_with fail
          refine (Pool_any m _ (rotL t ss) _ sx (by omega) HtlX.out).mono ?_; rintro e w52 ⟨v52, rfl, s52, hb52⟩
          have hw52 := hw51.trans (hb52.mono hw51.size)
          replace f0 := cell_below hb52 f0
          replace f1 := cell_below hb52 f1
          replace X0 := cell_below hb52 X0
          replace X1 := cell_below hb52 X1
          replace Y0 := cell_below hb52 Y0
          replace Y1 := cell_below hb52 Y1
          replace sx := sx.below hb52
          replace rx := rx.below hb52
          replace sy := sy.below hb52
          replace r3 := r3.below hb52
          replace ob1 := ob1.below hb52
          obtain ⟨A52, c52, rfl, hc52, hm52⟩ := s52.form
          go_wp2_with fail
          refine (Bounds_rot m _ ss t _ s52 Hf.out ht).mono ?_; rintro e w53 ⟨gb2, rfl, hgb2, ob2, hb53⟩
          have hw53 := hw52.trans (hb53.mono hw52.size)
          replace f0 := cell_below hb53 f0
          replace f1 := cell_below hb53 f1
          replace X0 := cell_below hb53 X0
          replace X1 := cell_below hb53 X1
          replace Y0 := cell_below hb53 Y0
          replace Y1 := cell_below hb53 Y1
          replace sx := sx.below hb53
          replace rx := rx.below hb53
          replace sy := sy.below hb53
          replace r3 := r3.below hb53
          replace ob1 := ob1.below hb53
          replace s52 := s52.below hb53
          go_wp2_with fail
          refine (Pool_any m _ (ss.map (turnS k)) _ sy (by omega) HtlY.out).mono ?_; rintro e w54 ⟨v54, rfl, s54, hb54⟩
          have hw54 := hw53.trans (hb54.mono hw53.size)
          replace f0 := cell_below hb54 f0
          replace f1 := cell_below hb54 f1
          replace X0 := cell_below hb54 X0
          replace X1 := cell_below hb54 X1
          replace Y0 := cell_below hb54 Y0
          replace Y1 := cell_below hb54 Y1
          replace sx := sx.below hb54
          replace rx := rx.below hb54
          replace sy := sy.below hb54
          replace r3 := r3.below hb54
          replace ob1 := ob1.below hb54
          replace ob2 := ob2.below hb54
          obtain ⟨A54, c54, rfl, hc54, hm54⟩ := s54.form
          rw [List.length_map] at s54
          go_wp2_with fail
          refine (Bounds_turn m _ ss k _ s54 Hf.out hk').mono ?_; rintro e w55 ⟨gb3, rfl, hgb3, ob3, hb55⟩
          have hw55 := hw54.trans (hb55.mono hw54.size)
          replace f0 := cell_below hb55 f0
          replace f1 := cell_below hb55 f1
          replace X0 := cell_below hb55 X0
          replace X1 := cell_below hb55 X1
          replace Y0 := cell_below hb55 Y0
          replace Y1 := cell_below hb55 Y1
          replace sx := sx.below hb55
          replace rx := rx.below hb55
          replace sy := sy.below hb55
          replace r3 := r3.below hb55
          replace ob1 := ob1.below hb55
          replace ob2 := ob2.below hb55
          replace s54 := s54.below hb55
          go_wp2_with fail
          refine (Pool_any m _ ss _ (hv.below hw55) (by omega) Htl.out).mono ?_; rintro e w56 ⟨v56, rfl, s56, hb56⟩
          have hw56 := hw55.trans (hb56.mono hw55.size)
          replace f0 := cell_below hb56 f0
          replace f1 := cell_below hb56 f1
          replace X0 := cell_below hb56 X0
          replace X1 := cell_below hb56 X1
          replace Y0 := cell_below hb56 Y0
          replace Y1 := cell_below hb56 Y1
          replace sx := sx.below hb56
          replace rx := rx.below hb56
          replace r3 := r3.below hb56
          replace ob1 := ob1.below hb56
          replace ob2 := ob2.below hb56
          replace ob3 := ob3.below hb56
          obtain ⟨A56, c56, rfl, hc56, hm56⟩ := s56.form
          go_wp2_with fail
          refine (Get_ok m _ _ ss ll _ s56 r3 Hf.out Htr.out).mono ?_; rintro e w57 ⟨A57, c57, rfl, o57, hb57⟩
          have hw57 := hw56.trans (hb57.mono hw56.size)
          replace f0 := cell_below hb57 f0
          replace f1 := cell_below hb57 f1
          replace X0 := cell_below hb57 X0
          replace X1 := cell_below hb57 X1
          replace Y0 := cell_below hb57 Y0
          replace Y1 := cell_below hb57 Y1
          replace sx := sx.below hb57
          replace rx := rx.below hb57
          replace r3 := r3.below hb57
          replace ob1 := ob1.below hb57
          replace ob2 := ob2.below hb57
          replace ob3 := ob3.below hb57
          replace s56 := s56.below hb57
          have n1 := nums_of_own o57
          go_wp2_with fail
          refine (Pool_any m _ (rotL t ss) _ sx (by omega) HtlX.out).mono ?_; rintro e w58 ⟨v58, rfl, s58, hb58⟩
          have hw58 := hw57.trans (hb58.mono hw57.size)
          replace f0 := cell_below hb58 f0
          replace f1 := cell_below hb58 f1
          replace X0 := cell_below hb58 X0
          replace X1 := cell_below hb58 X1
          replace Y0 := cell_below hb58 Y0
          replace Y1 := cell_below hb58 Y1
          replace sx := sx.below hb58
          replace rx := rx.below hb58
          replace ob1 := ob1.below hb58
          replace ob2 := ob2.below hb58
          replace ob3 := ob3.below hb58
          replace n1 := n1.below hb58
          obtain ⟨A58, c58, rfl, hc58, hm58⟩ := s58.form
          go_wp2_with fail
          refine (Get_rot m _ _ ss ll t _ s58 rx Hf.out Htr.out ht Ht0.out).mono ?_; rintro e w59 ⟨A59, c59, rfl, o59, hb59⟩
          have hw59 := hw58.trans (hb59.mono hw58.size)
          replace f0 := cell_below hb59 f0
          replace f1 := cell_below hb59 f1
          replace X0 := cell_below hb59 X0
          replace X1 := cell_below hb59 X1
          replace Y0 := cell_below hb59 Y0
          replace Y1 := cell_below hb59 Y1
          replace sx := sx.below hb59
          replace rx := rx.below hb59
          replace ob1 := ob1.below hb59
          replace ob2 := ob2.below hb59
          replace ob3 := ob3.below hb59
          replace n1 := n1.below hb59
          replace s58 := s58.below hb59
          have n2 := nums_of_own o59
          go_wp2_with fail
          refine (Gives.to (decide_self _) (ints_any _ _ (getsL m ss ll) (getsL m ss ll) _ n1 n2)).mono ?_; rintro e w60 ⟨rfl, hb60⟩
          have hw60 := hw59.trans (hb60.mono hw59.size)
          replace f0 := cell_below hb60 f0
          replace f1 := cell_below hb60 f1
          replace X0 := cell_below hb60 X0
          replace X1 := cell_below hb60 X1
          replace Y0 := cell_below hb60 Y0
          replace Y1 := cell_below hb60 Y1
          replace ob1 := ob1.below hb60
          replace ob2 := ob2.below hb60
          replace ob3 := ob3.below hb60
          replace n1 := n1.below hb60
          replace n2 := n2.below hb60
          clear n1 n2
          go_wp2_with fail
          go_loopw [28] (fun x wr => ∃ j : Nat, j ≤ m ∧ x = .int .i64 j ∧ Below w60.heap.size w60 wr) (fun x wr => m - (intOf x).toNat)
          case atStart => exact ⟨0, by omega, rfl, Below.refl _ _⟩
          case round =>
            obtain ⟨j, hj, rfl, hbr⟩ := hrel
            obtain ⟨wo, rfl⟩ : ∃ wo : World, wo = wr := ⟨_, rfl⟩
            replace f0 := cell_below hbr f0
            replace f1 := cell_below hbr f1
            replace ob1 := ob1.below hbr
            replace ob2 := ob2.below hbr
            replace ob3 := ob3.below hbr
            by_cases hlt : j < m
            · have hltI : (j : Int) < (m : Int) := by omega
              have hqn : (j + k) % m < m := Nat.mod_lt _ (by omega)
              have q0 := ob1.c0 hlt
              have q1 := ob1.c1 hlt
              have q2 := ob2.c0 hlt
              have q3 := ob2.c1 hlt
              have q4 := ob3.c0 hlt
              have q5 := ob3.c1 hlt
              have q6 := ob1.c0 hqn
              have q7 := ob1.c1 hqn
              obtain ⟨q, hq, hqm⟩ : ∃ q : Nat, ((j : Int) + (k : Int)) % (m : Int) = (q : Int) ∧ (j + k) % m = q := ⟨(j + k) % m, by rw [Int.natCast_emod, Int.natCast_add], rfl⟩
              rw [hqm] at q4 q5 q6 q7 hqn
              clear hqm
              have hqI : (q : Int) < (m : Int) := by omega
              obtain ⟨aL, haL⟩ : ∃ x, (boundK ss j ss.length).1 = x := ⟨_, rfl⟩
              obtain ⟨aH, haH⟩ : ∃ x, (boundK ss j ss.length).2 = x := ⟨_, rfl⟩
              obtain ⟨bL, hbL⟩ : ∃ x, (boundK ss q ss.length).1 = x := ⟨_, rfl⟩
              obtain ⟨bH, hbH⟩ : ∃ x, (boundK ss q ss.length).2 = x := ⟨_, rfl⟩
              rw [haL] at q0 q2
              rw [haH] at q1 q3
              rw [hbL] at q4 q6
              rw [hbH] at q5 q7
              clear haL haH hbL hbH
              have x0 := Later.cell q0
              have x1 := Later.cell q1
              have x2 := Later.cell q2
              have x3 := Later.cell q3
              have x4 := Later.cell q4
              have x5 := Later.cell q5
              have x6 := Later.cell q6
              have x7 := Later.cell q7
              have x8 := Later.cell f0
              go_wp2_with fail
              refine wp_region_later (by kernel_rfl) (by kernel_rfl) ?_
              repeat (go_big_quiet_step (fail))
              refine wpQuiet_nil ?_
              intro w90 hx90
              have hb90 := Later.out hx90
              clear hx90 x0 x1 x2 x3 x4 x5 x6 x7 x8 q0 q1 q2 q3 q4 q5 q6 q7
              go_wp2
              go_roundw
              case rel => exact ⟨j + 1, by omega, by go_num, hbr.trans (hb90.mono hbr.size)⟩
              case measure => simp [intOf]; omega
            · obtain rfl : j = m := by omega
              have hwo := hw60.trans (hbr.mono hw60.size)
              go_wp2_with (go_at_call 18; refine (wakes_any _).mono ?_; rintro e w95 ⟨rfl, hb95⟩)
              go_ret
              exact ⟨rfl, hwo.trans (hb95.mono hwo.size)⟩

theorem Order_law (n : Int) (v : Value) (a1 : Int) (uw : Value) (ss : List Strat) (ws : List Int) (w : World) (hv : StrataAt w v ss) (h1 : 0 ≤ a1 ∧ a1 ≤ 255) (hz : NumsAt .u16 w uw ws) (hw : WordsOk ws) :
    Calls Try.prog 7 #[.agg #[.int .i64 n, v], .int .u8 a1, uw] w (Gives w (.bool true)) := by
  cases hr : readyB n ss with
  | false => exact Order_not n v a1 uw ss ws w hv h1 hz hw hr
  | true =>
    have h1' := (fault_zero (ready_iff.1 hr).2).2.1
    obtain ⟨m, rfl⟩ : ∃ m : Nat, n = m := ⟨n.toNat, by omega⟩
    exact Order_ready m v a1 uw ss ws w hv h1 hz hw hr
end Go.Proofs.Ytobeffjdfhkjeaa
