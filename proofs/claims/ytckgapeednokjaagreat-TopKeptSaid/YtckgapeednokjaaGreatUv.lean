import Derived.Test.YtckgapeednokjaaGreatUt
import Derived.Sort.CutIn
import Derived.WalkMore
set_option linter.unusedVariables false
set_option linter.unusedSimpArgs false
namespace Go.Proofs.YtckgapeednokjaaGreat
open Go Go.Proofs Go.RowKit Go.Shelf

attribute [local go_sem] Oper.semAt_some
theorem wpIn_name {F : Fence} {n : Nat} {P : Program} {c : Code} {Q : Exit → Act → World → Prop} {a : Act} {w : World} (G : World → Prop) (h : G w) (hk : ∀ W, G W → c.wpIn F n P Q a W) : c.wpIn F n P Q a w := hk w h
/-! ### sheet.stretches -/
structure Sx where
  fr : Rc
  tr : Rc
  bt : List Rc
  A : Option Addr
  c : Nat
def gh (s : Sx) : Rc × List Rc × Rc := (s.fr, s.bt, s.tr)
def encS (s : Sx) : Array Value := #[.agg #[.int .i64 s.fr.mac, .int .i64 s.fr.seq, .int .i64 s.fr.min, .int .u8 s.fr.kind, .int .i64 s.fr.a, .int .i64 s.fr.b, .int .i64 s.tr.mac, .int .i64 s.tr.seq, .int .i64 s.tr.min, .int .u8 s.tr.kind, .int .i64 s.tr.a, .int .i64 s.tr.b, .slice s.A s.bt.length s.c]]
def SP (x : List Rc) (ys : List Sx) : Prop := ys.map gh <+: strL none (zeroR 0) [] x
def TS (t : TypeId) : Prop := t = 97 ∨ t = 89
def GS (s : Sx) (W : World) : Prop := RecsAt W (.slice s.A s.bt.length s.c) s.bt
/-- What a round keeps. -/
structure KeepS (N0 : Nat) (W W' : World) : Prop where
  low : Below N0 W W'
  typ : ∀ (k : Nat) (cur : Array Value) (t : TypeId) (fr : Nat × Nat), W.heap[k]? = some (Obj.cells cur t fr) → (TS t ∨ t = 37) → W'.heap[k]? = some (Obj.cells cur t fr)
theorem Turns.sets {B g : Nat} {T : TypeId → Prop} {t : TypeId} (hB : B ≤ g) (ht : T t) : ∀ (l : List (Nat × Value)) {X : World} {cur : Array Value}, X.heap[g]? = some (.cells cur t (0, 0)) → Turns B T X (l.foldl (fun W p => W.setCell ⟨g, p.1, none⟩ p.2) X)
  | [], _, _, _ => Turns.refl _
  | p :: l, X, cur, hc => (Turns.set p.1 p.2 hB hc ht).trans (Turns.sets hB ht l (X := X.setCell ⟨g, p.1, none⟩ p.2) (blk_set hc p.2))
theorem prefix_snoc {α : Type} {a b L : List α} (h : a ++ b = L) : a <+: L := ⟨b, h⟩
theorem stretches_any (A : Option Addr) (n c : Nat) (w : World) : Calls Tryz.prog 32 #[.slice A n c] w fun e w' => ∃ LB : Nat, e = .returned (.func (.func 74) #[] #[.pointer (some ⟨LB, 0, none⟩)]) ∧ w'.heap[LB]? = some (.cells #[.slice A n c] 37 (0, 0)) ∧ w.heap.size ≤ LB ∧ Below w.heap.size w w' := by
  go_enter Tryz.func32, Tryz.ntmps32
  go_wp2
  go_ret
  exact ⟨w.heap.size, rfl, heap_alloc_new w _, Nat.le_refl _, (Below.refl _ _).alloc (Nat.le_refl _) _⟩
theorem own_type_kept {X Y : World} {base : Nat} {e t : TypeId} {size n k : Nat} {v : Value} {xs : List Value} {cur : Array Value} {fr : Nat × Nat} (ho : X.ownsRow base e size v n xs) (hg : X.grownBy Y v.ownBlock) (hk : X.heap[k]? = some (.cells cur t fr)) (hne : t ≠ e) : Y.heap[k]? = some (.cells cur t fr) := by
  refine (hg.block k (Array.getElem?_eq_some_iff.1 hk).1 (fun h => ?_)).trans hk
  rcases ho.2 with ⟨rfl, _⟩ | ⟨g, cap, cr, rfl, _, hgc, _⟩
  · cases h
  · simp only [Value.ownBlock, Option.some.injEq] at h
    subst h
    rw [hgc] at hk
    cases hk
    exact hne rfl
theorem Turns.own {B : Nat} {T : TypeId → Prop} {X Y : World} {base : Nat} {e : TypeId} {size n : Nat} {v : Value} {xs : List Value} (ho : X.ownsRow base e size v n xs) (hg : X.grownBy Y v.ownBlock) (hT : T e) (hB : B ≤ base) : Turns B T X Y := by
  rcases ho.2 with ⟨rfl, _⟩ | ⟨g, cap, cr, rfl, hb, hgc, _⟩
  · exact ⟨hg.os, hg.tape, hg.output, hg.size, fun k o hk _ => (hg.block k (Array.getElem?_eq_some_iff.1 hk).1 (fun h => by cases h)).trans hk⟩
  · exact Turns.grown hg (Nat.le_trans hB hb) hgc hT
/-- Stores into a block of another type. -/
theorem own_sets {base : Nat} {e t : TypeId} {size n g : Nat} {v : Value} {xs : List Value} : ∀ {X : World} {cur : Array Value}, X.ownsRow base e size v n xs → X.heap[g]? = some (.cells cur t (0, 0)) → t ≠ e → ∀ l : List (Nat × Value), (l.foldl (fun W p => W.setCell ⟨g, p.1, none⟩ p.2) X).ownsRow base e size v n xs
  | X, cur, ho, hk, hne, [] => ho
  | X, cur, ho, hk, hne, p :: l => by
    refine own_sets (X := X.setCell ⟨g, p.1, none⟩ p.2) ?_ (blk_set hk p.2) hne l
    refine own_set ho ?_ p.2
    intro h
    rcases ho.2 with ⟨rfl, _⟩ | ⟨g', cap, cr, rfl, hb, hgc, _⟩
    · cases h
    · simp only [Value.ownBlock, Option.some.injEq] at h
      subst h
      rw [hgc] at hk
      cases hk
      exact hne rfl
set_option maxRecDepth 100000 in
set_option maxHeartbeats 6400000 in
theorem stretches_in (n id N c LB : Nat) (hn : 1 ≤ n) (A : Option Addr) (x : List Rc) (w0 W : World) (hN : x.length = N) (h60 : N ≤ 60) (hx0 : RecsAt w0 (.slice A N c) x) (hb0 : Below w0.heap.size w0 W) (hLB : W.heap[LB]? = some (.cells #[.slice A N c] 37 (0, 0)))
    (J : List Sx → World → Prop) (hJ : ∀ s X Y, J s X → Turns W.heap.size TS X Y → J s Y)
    (hY : ∀ pre y W1, J pre W1 → GS y W1 → SP x (pre ++ [y]) → YieldAt Fence.wide (n - 1) Tryz.prog id (encS y) W1 fun e W' => e = .returned (.bool true) ∧ J (pre ++ [y]) W' ∧ KeepS w0.heap.size W1 W') (hst : J [] W) :
    CallsIn Fence.wide n Tryz.prog 74 (#[.func (.yield id) #[] #[]] ++ #[.pointer (some ⟨LB, 0, none⟩)]) W fun e W' => (∃ v, e = .returned v) ∧ ∃ xs, J xs W' ∧ SP x xs ∧ ∀ y, ¬ SP x (xs ++ [y]) := by
  obtain ⟨i0, hi0, hz0, hz1, hz2⟩ := info_parts infoRcS
  have Hx0 := Lib.hid hx0
  have HN := Lib.hid hN
  have HJs := Lib.hid hJ
  have HY := Lib.hid hY
  have HLB := Lib.hid hLB
  clear hx0 hN hJ hY hLB
  refine callsIn_wide.2 ?_
  change Calls Tryz.prog 74 #[.func (.yield id) #[] #[], .pointer (some ⟨LB, 0, none⟩)] W _
  go_enter Tryz.func74, Tryz.ntmps74
  go_wp2
  go_step3
  go_upto_region 1 with (fail)
  refine wp_name (fun V => Below W.heap.size W V ∧ V.heap[W.heap.size]? = some (.cells #[.int .i64 0, .int .i64 0, .int .i64 0, .int .u8 0, .int .i64 0, .int .i64 0, .int .i64 0, .int .i64 0, .int .i64 0, .int .u8 0, .int .i64 0, .int .i64 0, .slice none 0 0] 97 (0, 0))) ⟨(Below.refl _ _).alloc (Nat.le_refl _) _, heap_alloc_new W _⟩ (fun V hV => ?_)
  obtain ⟨hbV, hSV⟩ := hV
  have hJV := HJs.out _ _ _ hst (Turns.of_below hbV)
  have hLV := (hbV.block _ (Array.getElem?_eq_some_iff.1 HLB.out).1).trans HLB.out
  have hsV : W.heap.size < V.heap.size := (Array.getElem?_eq_some_iff.1 hSV).1
  have hb0V := hb0.trans (hbV.mono hb0.size)
  obtain ⟨B0, hB0⟩ : ∃ B0, W.heap.size = B0 := ⟨_, rfl⟩
  obtain ⟨SB, hSB⟩ : ∃ SB, B0 = SB := ⟨_, rfl⟩
  have hSB0 : B0 ≤ SB := Nat.le_of_eq hSB
  have hw0B : w0.heap.size ≤ B0 := by rw [← hB0]; exact hb0.size
  have notL : ¬ TS 37 := fun h => by rcases h with h | h <;> exact absurd h (by decide)
  rw [hB0] at hSV hsV HJs ⊢
  rw [hSB] at hSV ⊢
  have HSB := Lib.hid hSB
  have hl0 := box_cells hLV 0
  simp only [List.getElem?_toArray, List.getElem?_cons_zero] at hl0
  clear hst hb0 hbV hB0 hSB
  go_wp2
  go_step3
  go_wp2
  go_loopw [8] (fun ix wr => ∃ (i : Nat) (ys : List Sx) (fr tr : Rc) (bt : List Rc) (Ab : Option Addr) (cb : Nat), i ≤ N ∧ ix = .int .i64 (i : Int) ∧ J ys wr ∧ Below w0.heap.size w0 wr ∧ B0 < wr.heap.size ∧ wr.heap[LB]? = some (.cells #[.slice A N c] 37 (0, 0)) ∧ wr.heap[SB]? = some (.cells #[.int .i64 fr.mac, .int .i64 fr.seq, .int .i64 fr.min, .int .u8 fr.kind, .int .i64 fr.a, .int .i64 fr.b, .int .i64 tr.mac, .int .i64 tr.seq, .int .i64 tr.min, .int .u8 tr.kind, .int .i64 tr.a, .int .i64 tr.b, .slice Ab bt.length cb] 97 (0, 0)) ∧ wr.ownsRow B0 89 6 (.slice Ab bt.length cb) bt.length (recCells bt) ∧ bt.length ≤ i ∧ ys.map gh ++ strL ((x.take i).getLast?.map Rc.mac) fr bt (x.drop i) = strL none (zeroR 0) [] x) (fun ix wr => N - (intOf ix).toNat)
  case atStart => exact ⟨0, [], zeroR 0, zeroR 0, [], none, 0, by omega, rfl, hJV, hb0V, hsV, hLV, hSV, World.ownsRow_nil _ _ _ _, by simp, by simp⟩
  case round =>
    obtain ⟨i, ys, fr, tr, bt, Ab, cb, hi, rfl, hJr, hbr, hsr, hLr, hSr, hOr, hbl, hE⟩ := hrel
    obtain ⟨wo, rfl⟩ : ∃ wo : World, wo = wr := ⟨_, rfl⟩
    have HE := Lib.hid hE
    have HJr := Lib.hid hJr
    have Hbr := Lib.hid hbr
    have HLr := Lib.hid hLr
    have HSr := Lib.hid hSr
    have HOr := Lib.hid hOr
    clear hE hJr hbr hLr hSr hOr hl0
    by_cases hlt : i < N
    · have hrec := Hx0.out.below Hbr.out
      rw [← HN.out] at hrec
      obtain ⟨b2, o2, r, e, hr, x0, x1, x2, x3, x4, x5, _⟩ := hrec.at_ (k := i) (by rw [HN.out]; exact hlt)
      subst e
      have hdr : x.drop i = r :: x.drop (i + 1) := by
        obtain ⟨h1, h2⟩ := List.getElem?_eq_some_iff.1 hr
        rw [List.drop_eq_getElem_cons h1, h2]
      have htk : x.take (i + 1) = x.take i ++ [r] := by rw [List.take_add_one, hr]; rfl
      have Hdr := Lib.hid hdr
      have Htk := Lib.hid htk
      have p0 : (i : Int) < (N : Int) := by omega
      clear hrec hdr htk hr
      go_wp2_with fail
      refine wp_name (fun V => Below wo.heap.size wo V ∧ V.heap[wo.heap.size]? = some (.cells #[.int .i64 r.mac, .int .i64 r.seq, .int .i64 r.min, .int .u8 r.kind, .int .i64 r.a, .int .i64 r.b] 89 (0, 0))) ⟨(Below.refl _ _).alloc (Nat.le_refl _) _, heap_alloc_new wo _⟩ (fun V1 hV => ?_)
      obtain ⟨hbV, hXV⟩ := hV
      clear x0 x1 x2 x3 x4 x5
      have HJ1 := Lib.hid (HJs.out _ _ _ HJr.out (Turns.of_below hbV))
      have Hb1 := Lib.hid (Hbr.out.trans (hbV.mono Hbr.out.size))
      have hs1 : B0 < V1.heap.size := Nat.lt_of_lt_of_le hsr hbV.size
      have HL1 := Lib.hid ((hbV.block _ (Array.getElem?_eq_some_iff.1 HLr.out).1).trans HLr.out)
      have HS1 := Lib.hid ((hbV.block _ (Array.getElem?_eq_some_iff.1 HSr.out).1).trans HSr.out)
      have HO1 := Lib.hid (own_below HOr.out hbV)
      obtain ⟨XB, hXB⟩ : ∃ XB, wo.heap.size = XB := ⟨_, rfl⟩
      have hXS : XB ≠ SB := by have := HSB.out; omega
      rw [hXB] at hXV ⊢
      have HX1 := Lib.hid hXV
      clear hbV hXV hXB HJr Hbr HLr HSr HOr hsr
      by_cases hi0 : i = 0
      · have e0 : decide (i = 0) = true := by simpa using hi0
        have e1 : (i == 0) = true := by simpa using hi0
        have e2 : ((i : Int) == 0) = true := by simp [hi0]
        have hpm : (x.take i).getLast?.map Rc.mac ≠ some r.mac := by rw [hi0]; simp
        have hF1 : (if (x.take i).getLast?.map Rc.mac = some r.mac then fr else zeroR r.mac) = zeroR r.mac := if_neg hpm
        have hF2 : (if (x.take i).getLast?.map Rc.mac = some r.mac then bt else []) = ([] : List Rc) := if_neg hpm
        have HF := Lib.hid (And.intro hF1 hF2)
        clear hi0 hpm hF1 hF2
        go_quiet (fail)
        go_upto_region 5 with (fail)
        clear e0 e1 e2
        refine wp_name (fun V4 => (J ys V4 ∧ Below w0.heap.size w0 V4 ∧ B0 < V4.heap.size ∧ V4.heap[LB]? = some (.cells #[.slice (some ⟨b2, o2, none⟩) N c] 37 (0, 0)) ∧ V4.heap[SB]? = some (.cells #[.int .i64 fr.mac, .int .i64 fr.seq, .int .i64 fr.min, .int .u8 fr.kind, .int .i64 fr.a, .int .i64 fr.b, .int .i64 tr.mac, .int .i64 tr.seq, .int .i64 tr.min, .int .u8 tr.kind, .int .i64 tr.a, .int .i64 tr.b, .slice Ab bt.length cb] 97 (0, 0)) ∧ V4.ownsRow B0 89 6 (.slice Ab bt.length cb) bt.length (recCells bt) ∧ V4.heap[XB]? = some (.cells #[.int .i64 r.mac, .int .i64 r.seq, .int .i64 r.min, .int .u8 r.kind, .int .i64 r.a, .int .i64 r.b] 89 (0, 0)))) ⟨HJs.out _ _ _ HJ1.out ((Turns.refl _).drewN _), below_drewN Hb1.out _, hs1, HL1.out, HS1.out, own_below HO1.out (below_drewN (Below.refl _ _) _), HX1.out⟩ (fun V4 hV4 => ?_)
        obtain ⟨qJ4, qb4, hs4, qL4, qS4, qO4, qX4⟩ := hV4
        have HJ4 := Lib.hid qJ4
        have Hb4 := Lib.hid qb4
        have HL4 := Lib.hid qL4
        have HS4 := Lib.hid qS4
        have HO4 := Lib.hid qO4
        have HX4 := Lib.hid qX4
        clear qJ4 qb4 qL4 qS4 qO4 qX4
        have gs4 := box_cells HS4.out
        have s0 := gs4 0
        have s1 := gs4 1
        have s2 := gs4 2
        have s3 := gs4 3
        have s4 := gs4 4
        have s5 := gs4 5
        have s6 := gs4 6
        have s7 := gs4 7
        have s8 := gs4 8
        have s9 := gs4 9
        have s10 := gs4 10
        have s11 := gs4 11
        have s12 := gs4 12
        have sf := box_frozen HS4.out
        simp only [List.getElem?_toArray, List.getElem?_cons_zero, List.getElem?_cons_succ] at s0 s1 s2 s3 s4 s5 s6 s7 s8 s9 s10 s11 s12
        clear gs4
        have gx4 := box_cells HX4.out
        have x0 := gx4 0
        have x1 := gx4 1
        have x2 := gx4 2
        have x3 := gx4 3
        have x4 := gx4 4
        have x5 := gx4 5
        simp only [List.getElem?_toArray, List.getElem?_cons_zero, List.getElem?_cons_succ] at x0 x1 x2 x3 x4 x5
        clear gx4
        go_upto_region 6 with (fail)
        clear s0 s1 s2 s3 s4 s5 s6 s7 s8 s9 s10 s11 s12 sf x0 x1 x2 x3 x4 x5
        have hput := (blk_set (blk_set (blk_set (blk_set (blk_set (blk_set (blk_set (blk_set (blk_set (blk_set (blk_set (blk_set (blk_set HS4.out (o := 0) (.int .i64 r.mac)) (o := 1) (.int .i64 0)) (o := 2) (.int .i64 0)) (o := 3) (.int .u8 0)) (o := 4) (.int .i64 0)) (o := 5) (.int .i64 0)) (o := 6) (.int .i64 0)) (o := 7) (.int .i64 0)) (o := 8) (.int .i64 0)) (o := 9) (.int .u8 0)) (o := 10) (.int .i64 0)) (o := 11) (.int .i64 0)) (o := 12) (.slice none 0 0))
        simp only [List.setIfInBounds_toArray, List.set_cons_succ, List.set_cons_zero] at hput
        have hT5 := Turns.sets (T := TS) (g := SB) hSB0 (Or.inl rfl) [(0, .int .i64 r.mac), (1, .int .i64 0), (2, .int .i64 0), (3, .int .u8 0), (4, .int .i64 0), (5, .int .i64 0), (6, .int .i64 0), (7, .int .i64 0), (8, .int .i64 0), (9, .int .u8 0), (10, .int .i64 0), (11, .int .i64 0), (12, .slice none 0 0)] HS4.out
        refine wp_name (fun V5 => (J ys V5 ∧ Below w0.heap.size w0 V5 ∧ B0 < V5.heap.size ∧ V5.heap[LB]? = some (.cells #[.slice (some ⟨b2, o2, none⟩) N c] 37 (0, 0)) ∧ V5.heap[SB]? = some (.cells #[.int .i64 (zeroR r.mac).mac, .int .i64 (zeroR r.mac).seq, .int .i64 (zeroR r.mac).min, .int .u8 (zeroR r.mac).kind, .int .i64 (zeroR r.mac).a, .int .i64 (zeroR r.mac).b, .int .i64 (zeroR 0).mac, .int .i64 (zeroR 0).seq, .int .i64 (zeroR 0).min, .int .u8 (zeroR 0).kind, .int .i64 (zeroR 0).a, .int .i64 (zeroR 0).b, .slice none ([] : List Rc).length 0] 97 (0, 0)) ∧ V5.ownsRow B0 89 6 (.slice none ([] : List Rc).length 0) ([] : List Rc).length (recCells ([] : List Rc)) ∧ V5.heap[XB]? = some (.cells #[.int .i64 r.mac, .int .i64 r.seq, .int .i64 r.min, .int .u8 r.kind, .int .i64 r.a, .int .i64 r.b] 89 (0, 0)))) ⟨HJs.out _ _ _ HJ4.out hT5, Hb4.out.trans ((hT5.below (Nat.le_of_lt hs4)).mono hw0B), Nat.lt_of_lt_of_le hs4 hT5.size, hT5.blk HL4.out (.inr notL), hput, World.ownsRow_nil _ _ _ _, (blk_other (blk_other (blk_other (blk_other (blk_other (blk_other (blk_other (blk_other (blk_other (blk_other (blk_other (blk_other (blk_other HX4.out hXS (.int .i64 r.mac) (o := 0)) hXS (.int .i64 0) (o := 1)) hXS (.int .i64 0) (o := 2)) hXS (.int .u8 0) (o := 3)) hXS (.int .i64 0) (o := 4)) hXS (.int .i64 0) (o := 5)) hXS (.int .i64 0) (o := 6)) hXS (.int .i64 0) (o := 7)) hXS (.int .i64 0) (o := 8)) hXS (.int .u8 0) (o := 9)) hXS (.int .i64 0) (o := 10)) hXS (.int .i64 0) (o := 11)) hXS (.slice none 0 0) (o := 12))⟩ (fun V5 hV5 => ?_)
        clear hput hT5
        obtain ⟨qJ5, qb5, hs5, qL5, qS5, qO5, qX5⟩ := hV5
        have HJ5 := Lib.hid qJ5
        have Hb5 := Lib.hid qb5
        have HL5 := Lib.hid qL5
        have HS5 := Lib.hid qS5
        have HO5 := Lib.hid qO5
        have HX5 := Lib.hid qX5
        clear qJ5 qb5 qL5 qS5 qO5 qX5
        by_cases k2 : r.kind = 2
        · have k2b : (r.kind != 2) = false := by simp [k2]
          have hstep := HE.out
          rw [Hdr.out, strL_close k2] at hstep
          simp only [HF.out.1, HF.out.2] at hstep
          have Hstep := Lib.hid hstep
          clear hstep k2
          have gs5 := box_cells HS5.out
          have s0 := gs5 0
          have s1 := gs5 1
          have s2 := gs5 2
          have s3 := gs5 3
          have s4 := gs5 4
          have s5 := gs5 5
          have s6 := gs5 6
          have s7 := gs5 7
          have s8 := gs5 8
          have s9 := gs5 9
          have s10 := gs5 10
          have s11 := gs5 11
          have s12 := gs5 12
          have sf := box_frozen HS5.out
          simp only [List.getElem?_toArray, List.getElem?_cons_zero, List.getElem?_cons_succ] at s0 s1 s2 s3 s4 s5 s6 s7 s8 s9 s10 s11 s12
          clear gs5
          have gx5 := box_cells HX5.out
          have x0 := gx5 0
          have x1 := gx5 1
          have x2 := gx5 2
          have x3 := gx5 3
          have x4 := gx5 4
          have x5 := gx5 5
          simp only [List.getElem?_toArray, List.getElem?_cons_zero, List.getElem?_cons_succ] at x0 x1 x2 x3 x4 x5
          clear gx5
          go_upto_region 9 with (fail)
          clear s0 s1 s2 s3 s4 s5 s6 s7 s8 s9 s10 s11 s12 sf x0 x1 x2 x3 x4 x5
          have hput := (blk_set (blk_set (blk_set (blk_set (blk_set (blk_set HS5.out (o := 6) (.int .i64 r.mac)) (o := 7) (.int .i64 r.seq)) (o := 8) (.int .i64 r.min)) (o := 9) (.int .u8 r.kind)) (o := 10) (.int .i64 r.a)) (o := 11) (.int .i64 r.b))
          simp only [List.setIfInBounds_toArray, List.set_cons_succ, List.set_cons_zero] at hput
          have hT6 := Turns.sets (T := TS) (g := SB) hSB0 (Or.inl rfl) [(6, .int .i64 r.mac), (7, .int .i64 r.seq), (8, .int .i64 r.min), (9, .int .u8 r.kind), (10, .int .i64 r.a), (11, .int .i64 r.b)] HS5.out
          refine wp_name (fun V6 => (J ys V6 ∧ Below w0.heap.size w0 V6 ∧ B0 < V6.heap.size ∧ V6.heap[LB]? = some (.cells #[.slice (some ⟨b2, o2, none⟩) N c] 37 (0, 0)) ∧ V6.heap[SB]? = some (.cells #[.int .i64 (zeroR r.mac).mac, .int .i64 (zeroR r.mac).seq, .int .i64 (zeroR r.mac).min, .int .u8 (zeroR r.mac).kind, .int .i64 (zeroR r.mac).a, .int .i64 (zeroR r.mac).b, .int .i64 r.mac, .int .i64 r.seq, .int .i64 r.min, .int .u8 r.kind, .int .i64 r.a, .int .i64 r.b, .slice none ([] : List Rc).length 0] 97 (0, 0)) ∧ V6.ownsRow B0 89 6 (.slice none ([] : List Rc).length 0) ([] : List Rc).length (recCells ([] : List Rc)) ∧ V6.heap[XB]? = some (.cells #[.int .i64 r.mac, .int .i64 r.seq, .int .i64 r.min, .int .u8 r.kind, .int .i64 r.a, .int .i64 r.b] 89 (0, 0)))) ⟨HJs.out _ _ _ HJ5.out hT6, Hb5.out.trans ((hT6.below (Nat.le_of_lt hs5)).mono hw0B), Nat.lt_of_lt_of_le hs5 hT6.size, hT6.blk HL5.out (.inr notL), hput, own_sets HO5.out HS5.out (by decide) [(6, .int .i64 r.mac), (7, .int .i64 r.seq), (8, .int .i64 r.min), (9, .int .u8 r.kind), (10, .int .i64 r.a), (11, .int .i64 r.b)], (blk_other (blk_other (blk_other (blk_other (blk_other (blk_other HX5.out hXS (.int .i64 r.mac) (o := 6)) hXS (.int .i64 r.seq) (o := 7)) hXS (.int .i64 r.min) (o := 8)) hXS (.int .u8 r.kind) (o := 9)) hXS (.int .i64 r.a) (o := 10)) hXS (.int .i64 r.b) (o := 11))⟩ (fun V6 hV6 => ?_)
          clear hput hT6
          obtain ⟨qJ6, qb6, hs6, qL6, qS6, qO6, qX6⟩ := hV6
          have HJ6 := Lib.hid qJ6
          have Hb6 := Lib.hid qb6
          have HL6 := Lib.hid qL6
          have HS6 := Lib.hid qS6
          have HO6 := Lib.hid qO6
          have HX6 := Lib.hid qX6
          clear qJ6 qb6 qL6 qS6 qO6 qX6
          have hG6 : GS ⟨(zeroR r.mac), r, ([] : List Rc), none, 0⟩ V6 := recs_of_own HO6.out
          have hSx : SP x (ys ++ [⟨(zeroR r.mac), r, ([] : List Rc), none, 0⟩]) := ⟨_, by rw [List.map_append, List.append_assoc]; exact Hstep.out⟩
          obtain ⟨fn, tmps, assign, body, hy, hR⟩ := HY.out ys ⟨(zeroR r.mac), r, ([] : List Rc), none, 0⟩ V6 HJ6.out hG6 hSx
          simp only [encS, List.length_nil] at hy
          have gs6 := box_cells HS6.out
          have s0 := gs6 0
          have s1 := gs6 1
          have s2 := gs6 2
          have s3 := gs6 3
          have s4 := gs6 4
          have s5 := gs6 5
          have s6 := gs6 6
          have s7 := gs6 7
          have s8 := gs6 8
          have s9 := gs6 9
          have s10 := gs6 10
          have s11 := gs6 11
          have s12 := gs6 12
          have sf := box_frozen HS6.out
          simp only [List.getElem?_toArray, List.getElem?_cons_zero, List.getElem?_cons_succ] at s0 s1 s2 s3 s4 s5 s6 s7 s8 s9 s10 s11 s12
          clear gs6
          refine (wpIn_wide (n := n)).1 ?_
          gi_wp2
          refine hR.mono ?_
          rintro e W7 ⟨rfl, hJ7, hk7⟩
          clear s0 s1 s2 s3 s4 s5 s6 s7 s8 s9 s10 s11 s12 sf
          have HJ7 := Lib.hid hJ7
          have Hb7 := Lib.hid (Hb6.out.trans hk7.low)
          have hs7 : B0 < W7.heap.size := Nat.lt_of_lt_of_le hs6 hk7.low.size
          have HL7 := Lib.hid (hk7.typ _ _ _ _ HL6.out (.inr rfl))
          have HS7 := Lib.hid (hk7.typ _ _ _ _ HS6.out (.inl (.inl rfl)))
          have HX7 := Lib.hid (hk7.typ _ _ _ _ HX6.out (.inl (.inr rfl)))
          clear hJ7 hk7 hy hR hG6 hSx
          have gs7 := box_cells HS7.out
          have s0 := gs7 0
          have s1 := gs7 1
          have s2 := gs7 2
          have s3 := gs7 3
          have s4 := gs7 4
          have s5 := gs7 5
          have s6 := gs7 6
          have s7 := gs7 7
          have s8 := gs7 8
          have s9 := gs7 9
          have s10 := gs7 10
          have s11 := gs7 11
          have s12 := gs7 12
          have sf := box_frozen HS7.out
          simp only [List.getElem?_toArray, List.getElem?_cons_zero, List.getElem?_cons_succ] at s0 s1 s2 s3 s4 s5 s6 s7 s8 s9 s10 s11 s12
          clear gs7
          have gx7 := box_cells HX7.out
          have x0 := gx7 0
          have x1 := gx7 1
          have x2 := gx7 2
          have x3 := gx7 3
          have x4 := gx7 4
          have x5 := gx7 5
          simp only [List.getElem?_toArray, List.getElem?_cons_zero, List.getElem?_cons_succ] at x0 x1 x2 x3 x4 x5
          clear gx7
          gi_wp2
          go_upto_region 11 with (fail)
          clear s0 s1 s2 s3 s4 s5 s6 s7 s8 s9 s10 s11 s12 sf x0 x1 x2 x3 x4 x5
          have hput := (blk_set (blk_set (blk_set (blk_set (blk_set (blk_set (blk_set (blk_set (blk_set (blk_set (blk_set (blk_set (blk_set HS7.out (o := 0) (.int .i64 r.mac)) (o := 1) (.int .i64 r.seq)) (o := 2) (.int .i64 r.min)) (o := 3) (.int .u8 r.kind)) (o := 4) (.int .i64 r.a)) (o := 5) (.int .i64 r.b)) (o := 6) (.int .i64 0)) (o := 7) (.int .i64 0)) (o := 8) (.int .i64 0)) (o := 9) (.int .u8 0)) (o := 10) (.int .i64 0)) (o := 11) (.int .i64 0)) (o := 12) (.slice none 0 0))
          simp only [List.setIfInBounds_toArray, List.set_cons_succ, List.set_cons_zero] at hput
          have hT8 := Turns.sets (T := TS) (g := SB) hSB0 (Or.inl rfl) [(0, .int .i64 r.mac), (1, .int .i64 r.seq), (2, .int .i64 r.min), (3, .int .u8 r.kind), (4, .int .i64 r.a), (5, .int .i64 r.b), (6, .int .i64 0), (7, .int .i64 0), (8, .int .i64 0), (9, .int .u8 0), (10, .int .i64 0), (11, .int .i64 0), (12, .slice none 0 0)] HS7.out
          refine wp_name (fun V8 => (J (ys ++ [⟨(zeroR r.mac), r, ([] : List Rc), none, 0⟩]) V8 ∧ Below w0.heap.size w0 V8 ∧ B0 < V8.heap.size ∧ V8.heap[LB]? = some (.cells #[.slice (some ⟨b2, o2, none⟩) N c] 37 (0, 0)) ∧ V8.heap[SB]? = some (.cells #[.int .i64 r.mac, .int .i64 r.seq, .int .i64 r.min, .int .u8 r.kind, .int .i64 r.a, .int .i64 r.b, .int .i64 (zeroR 0).mac, .int .i64 (zeroR 0).seq, .int .i64 (zeroR 0).min, .int .u8 (zeroR 0).kind, .int .i64 (zeroR 0).a, .int .i64 (zeroR 0).b, .slice none ([] : List Rc).length 0] 97 (0, 0)) ∧ V8.ownsRow B0 89 6 (.slice none ([] : List Rc).length 0) ([] : List Rc).length (recCells ([] : List Rc)) ∧ V8.heap[XB]? = some (.cells #[.int .i64 r.mac, .int .i64 r.seq, .int .i64 r.min, .int .u8 r.kind, .int .i64 r.a, .int .i64 r.b] 89 (0, 0)))) ⟨HJs.out _ _ _ HJ7.out hT8, Hb7.out.trans ((hT8.below (Nat.le_of_lt hs7)).mono hw0B), Nat.lt_of_lt_of_le hs7 hT8.size, hT8.blk HL7.out (.inr notL), hput, World.ownsRow_nil _ _ _ _, (blk_other (blk_other (blk_other (blk_other (blk_other (blk_other (blk_other (blk_other (blk_other (blk_other (blk_other (blk_other (blk_other HX7.out hXS (.int .i64 r.mac) (o := 0)) hXS (.int .i64 r.seq) (o := 1)) hXS (.int .i64 r.min) (o := 2)) hXS (.int .u8 r.kind) (o := 3)) hXS (.int .i64 r.a) (o := 4)) hXS (.int .i64 r.b) (o := 5)) hXS (.int .i64 0) (o := 6)) hXS (.int .i64 0) (o := 7)) hXS (.int .i64 0) (o := 8)) hXS (.int .u8 0) (o := 9)) hXS (.int .i64 0) (o := 10)) hXS (.int .i64 0) (o := 11)) hXS (.slice none 0 0) (o := 12))⟩ (fun V8 hV8 => ?_)
          clear hput hT8
          obtain ⟨qJ8, qb8, hs8, qL8, qS8, qO8, qX8⟩ := hV8
          have HJ8 := Lib.hid qJ8
          have Hb8 := Lib.hid qb8
          have HL8 := Lib.hid qL8
          have HS8 := Lib.hid qS8
          have HO8 := Lib.hid qO8
          have HX8 := Lib.hid qX8
          clear qJ8 qb8 qL8 qS8 qO8 qX8
          go_wp2
          go_roundw
          case rel =>
            refine ⟨i + 1, ys ++ [⟨(zeroR r.mac), r, ([] : List Rc), none, 0⟩], r, zeroR 0, [], none, 0, by omega, by go_num, HJ8.out, Hb8.out, hs8, HL8.out, HS8.out, HO8.out, by simp, ?_⟩
            rw [Htk.out, List.getLast?_concat, List.map_append, List.append_assoc]
            exact Hstep.out
          case measure => simp [intOf]; omega
        · have k2b : (r.kind != 2) = true := by simpa using k2
          have hstep := HE.out
          rw [Hdr.out, strL_other k2] at hstep
          simp only [HF.out.1, HF.out.2] at hstep
          have Hstep := Lib.hid hstep
          clear hstep k2
          have gs5 := box_cells HS5.out
          have s0 := gs5 0
          have s1 := gs5 1
          have s2 := gs5 2
          have s3 := gs5 3
          have s4 := gs5 4
          have s5 := gs5 5
          have s6 := gs5 6
          have s7 := gs5 7
          have s8 := gs5 8
          have s9 := gs5 9
          have s10 := gs5 10
          have s11 := gs5 11
          have s12 := gs5 12
          have sf := box_frozen HS5.out
          simp only [List.getElem?_toArray, List.getElem?_cons_zero, List.getElem?_cons_succ] at s0 s1 s2 s3 s4 s5 s6 s7 s8 s9 s10 s11 s12
          clear gs5
          have gx5 := box_cells HX5.out
          have x0 := gx5 0
          have x1 := gx5 1
          have x2 := gx5 2
          have x3 := gx5 3
          have x4 := gx5 4
          have x5 := gx5 5
          simp only [List.getElem?_toArray, List.getElem?_cons_zero, List.getElem?_cons_succ] at x0 x1 x2 x3 x4 x5
          clear gx5
          have hbl2 : ([] : List Rc).length ≤ 60 := by simp
          go_upto_region 11 with (at_builtin; go_loud (refine wpList_append_src _ rfl (.tmp 34) (.tmp 36) 37 rfl B0 89 i0 _ 6 48 Tryz.underlying37 hi0 hz0 hz1 hz2 rfl (by omega) _ ([] : List Rc).length _ rfl (HO5.out.alloc _) (some ⟨V5.heap.size, 0, none⟩) 1 1 (recC r) rfl (src_new V5 (recC r) 89 1 6 rfl) (by simp [recC, Value.oneCell']) (by simp [maxLen] <;> omega) (by omega) (by simp <;> omega) ?_); intro v2 w2 hown2 hg2 _; have hS2 := own_type_kept (HO5.out.alloc (.cells (recC r).toArray 89)) hg2 ((Below.heap_alloc _ _ _ (Array.getElem?_eq_some_iff.1 HS5.out).1).trans HS5.out) (by decide); have hT2 := ((Turns.refl V5).alloc (B := B0) (T := TS) (.cells (recC r).toArray 89)).trans (Turns.own (HO5.out.alloc _) hg2 (Or.inr rfl : TS 89) (Nat.le_refl _)); obtain ⟨A2, c2, rfl⟩ := own_form hown2; clear s0 s1 s2 s3 s4 s5 s6 s7 s8 s9 s10 s11 s12 sf x0 x1 x2 x3 x4 x5; have gs2 := box_cells hS2 12; have sf := box_frozen hS2; simp only [List.getElem?_toArray, List.getElem?_cons_zero, List.getElem?_cons_succ] at gs2; have Hown2 := Lib.hid hown2; have HS2 := Lib.hid hS2; have HT2 := Lib.hid hT2; clear hg2 hown2 hS2 hT2)
          clear gs2 sf
          have hput := blk_set HS2.out (o := 12) (.slice A2 (([] : List Rc).length + 1) c2)
          simp only [List.setIfInBounds_toArray, List.set_cons_succ, List.set_cons_zero] at hput
          have hT6 := HT2.out.trans (Turns.set (B := B0) (T := TS) 12 (.slice A2 (([] : List Rc).length + 1) c2) hSB0 HS2.out (Or.inl rfl))
          have hO6 := own_sets Hown2.out HS2.out (by decide) [(12, .slice A2 (([] : List Rc).length + 1) c2)]
          refine wp_name (fun V => J ys V ∧ Below w0.heap.size w0 V ∧ B0 < V.heap.size ∧ V.heap[LB]? = some (.cells #[.slice (some ⟨b2, o2, none⟩) N c] 37 (0, 0)) ∧ V.heap[SB]? = some (.cells #[.int .i64 (zeroR r.mac).mac, .int .i64 (zeroR r.mac).seq, .int .i64 (zeroR r.mac).min, .int .u8 (zeroR r.mac).kind, .int .i64 (zeroR r.mac).a, .int .i64 (zeroR r.mac).b, .int .i64 (zeroR 0).mac, .int .i64 (zeroR 0).seq, .int .i64 (zeroR 0).min, .int .u8 (zeroR 0).kind, .int .i64 (zeroR 0).a, .int .i64 (zeroR 0).b, .slice A2 (([] : List Rc).length + 1) c2] 97 (0, 0)) ∧ V.ownsRow B0 89 6 (.slice A2 (([] : List Rc).length + 1) c2) (([] : List Rc).length + 1) (recCells ([] : List Rc) ++ recC r)) ⟨HJs.out _ _ _ HJ5.out hT6, Hb5.out.trans ((hT6.below (Nat.le_of_lt hs5)).mono hw0B), Nat.lt_of_lt_of_le hs5 hT6.size, hT6.blk HL5.out (.inr notL), hput, hO6⟩ (fun V6 hV6 => ?_)
          obtain ⟨qJ, qb, qs, qL, qS, qO⟩ := hV6
          have HJ6 := Lib.hid qJ
          have Hb6 := Lib.hid qb
          have HL6 := Lib.hid qL
          have HS6 := Lib.hid qS
          have HO6 := Lib.hid qO
          clear hput hT6 hO6 qJ qb qL qS qO HS2 HT2 Hown2
          go_wp2
          go_roundw
          case rel =>
            refine ⟨i + 1, ys, (zeroR r.mac), (zeroR 0), ([] : List Rc) ++ [r], A2, c2, by omega, by go_num, HJ6.out, Hb6.out, qs, HL6.out, by rw [List.length_append]; exact HS6.out, by rw [List.length_append, recCells_snoc]; exact HO6.out, by rw [List.length_append]; simp <;> simp, ?_⟩
            rw [Htk.out, List.getLast?_concat]
            exact Hstep.out
          case measure => simp [intOf]; omega
      · obtain ⟨j, hj⟩ : ∃ j, i = j + 1 := ⟨i - 1, by omega⟩
        have hrec := Hx0.out.below Hb1.out
        rw [← HN.out] at hrec
        obtain ⟨b3, o3, p, e, hp, y0, y1, y2, y3, y4, y5, _⟩ := hrec.at_ (k := j) (by rw [HN.out]; omega)
        cases e
        have hlast : (x.take i).getLast?.map Rc.mac = some p.mac := by
          have hlen : (x.take i).length = j + 1 := by rw [List.length_take, HN.out]; omega
          rw [List.getLast?_eq_getElem?, hlen, Nat.add_sub_cancel, List.getElem?_take, if_pos (by omega), hp]
          rfl
        have e0 : decide (i = 0) = false := by simpa using hi0
        have e1 : (i == 0) = false := by simpa using hi0
        have e2 : ((i : Int) == 0) = false := by simpa using hi0
        have q1 : IntKind.i64.wrap ((i : Int) - 1) = (j : Int) := by rw [IntWalk.i64_in _ (by omega)]; omega
        have q2 : (i : Int) - 1 = (j : Int) := by omega
        have q3 : (j : Int) < (N : Int) := by omega
        have l0 := box_cells HL1.out 0
        simp only [List.getElem?_toArray, List.getElem?_cons_zero] at l0
        have x0 := box_cells HX1.out 0
        simp only [List.getElem?_toArray, List.getElem?_cons_zero] at x0
        by_cases hm : p.mac = r.mac
        · have m1 : (p.mac != r.mac) = false := by simp [hm]
          have hpm : (x.take i).getLast?.map Rc.mac = some r.mac := by rw [hlast, hm]
          have hF1 : (if (x.take i).getLast?.map Rc.mac = some r.mac then fr else zeroR r.mac) = fr := if_pos hpm
          have hF2 : (if (x.take i).getLast?.map Rc.mac = some r.mac then bt else []) = bt := if_pos hpm
          have HF := Lib.hid (And.intro hF1 hF2)
          clear hpm hF1 hF2 hm hlast hp hrec hi0 hj y1 y2 y3 y4 y5
          go_quiet (fail)
          go_upto_region 6 with (fail)
          clear m1 e0 e1 e2 q1 q2 q3 l0 x0 y0
          refine wp_name (fun V5 => (J ys V5 ∧ Below w0.heap.size w0 V5 ∧ B0 < V5.heap.size ∧ V5.heap[LB]? = some (.cells #[.slice (some ⟨b2, o2, none⟩) N c] 37 (0, 0)) ∧ V5.heap[SB]? = some (.cells #[.int .i64 fr.mac, .int .i64 fr.seq, .int .i64 fr.min, .int .u8 fr.kind, .int .i64 fr.a, .int .i64 fr.b, .int .i64 tr.mac, .int .i64 tr.seq, .int .i64 tr.min, .int .u8 tr.kind, .int .i64 tr.a, .int .i64 tr.b, .slice Ab bt.length cb] 97 (0, 0)) ∧ V5.ownsRow B0 89 6 (.slice Ab bt.length cb) bt.length (recCells bt) ∧ V5.heap[XB]? = some (.cells #[.int .i64 r.mac, .int .i64 r.seq, .int .i64 r.min, .int .u8 r.kind, .int .i64 r.a, .int .i64 r.b] 89 (0, 0)))) ⟨HJs.out _ _ _ HJ1.out ((Turns.refl _).drewN _), below_drewN Hb1.out _, hs1, HL1.out, HS1.out, own_below HO1.out (below_drewN (Below.refl _ _) _), HX1.out⟩ (fun V5 hV5 => ?_)
          obtain ⟨qJ5, qb5, hs5, qL5, qS5, qO5, qX5⟩ := hV5
          have HJ5 := Lib.hid qJ5
          have Hb5 := Lib.hid qb5
          have HL5 := Lib.hid qL5
          have HS5 := Lib.hid qS5
          have HO5 := Lib.hid qO5
          have HX5 := Lib.hid qX5
          clear qJ5 qb5 qL5 qS5 qO5 qX5
          by_cases k2 : r.kind = 2
          · have k2b : (r.kind != 2) = false := by simp [k2]
            have hstep := HE.out
            rw [Hdr.out, strL_close k2] at hstep
            simp only [HF.out.1, HF.out.2] at hstep
            have Hstep := Lib.hid hstep
            clear hstep k2
            have gs5 := box_cells HS5.out
            have s0 := gs5 0
            have s1 := gs5 1
            have s2 := gs5 2
            have s3 := gs5 3
            have s4 := gs5 4
            have s5 := gs5 5
            have s6 := gs5 6
            have s7 := gs5 7
            have s8 := gs5 8
            have s9 := gs5 9
            have s10 := gs5 10
            have s11 := gs5 11
            have s12 := gs5 12
            have sf := box_frozen HS5.out
            simp only [List.getElem?_toArray, List.getElem?_cons_zero, List.getElem?_cons_succ] at s0 s1 s2 s3 s4 s5 s6 s7 s8 s9 s10 s11 s12
            clear gs5
            have gx5 := box_cells HX5.out
            have x0 := gx5 0
            have x1 := gx5 1
            have x2 := gx5 2
            have x3 := gx5 3
            have x4 := gx5 4
            have x5 := gx5 5
            simp only [List.getElem?_toArray, List.getElem?_cons_zero, List.getElem?_cons_succ] at x0 x1 x2 x3 x4 x5
            clear gx5
            go_upto_region 9 with (fail)
            clear s0 s1 s2 s3 s4 s5 s6 s7 s8 s9 s10 s11 s12 sf x0 x1 x2 x3 x4 x5
            have hput := (blk_set (blk_set (blk_set (blk_set (blk_set (blk_set HS5.out (o := 6) (.int .i64 r.mac)) (o := 7) (.int .i64 r.seq)) (o := 8) (.int .i64 r.min)) (o := 9) (.int .u8 r.kind)) (o := 10) (.int .i64 r.a)) (o := 11) (.int .i64 r.b))
            simp only [List.setIfInBounds_toArray, List.set_cons_succ, List.set_cons_zero] at hput
            have hT6 := Turns.sets (T := TS) (g := SB) hSB0 (Or.inl rfl) [(6, .int .i64 r.mac), (7, .int .i64 r.seq), (8, .int .i64 r.min), (9, .int .u8 r.kind), (10, .int .i64 r.a), (11, .int .i64 r.b)] HS5.out
            refine wp_name (fun V6 => (J ys V6 ∧ Below w0.heap.size w0 V6 ∧ B0 < V6.heap.size ∧ V6.heap[LB]? = some (.cells #[.slice (some ⟨b2, o2, none⟩) N c] 37 (0, 0)) ∧ V6.heap[SB]? = some (.cells #[.int .i64 fr.mac, .int .i64 fr.seq, .int .i64 fr.min, .int .u8 fr.kind, .int .i64 fr.a, .int .i64 fr.b, .int .i64 r.mac, .int .i64 r.seq, .int .i64 r.min, .int .u8 r.kind, .int .i64 r.a, .int .i64 r.b, .slice Ab bt.length cb] 97 (0, 0)) ∧ V6.ownsRow B0 89 6 (.slice Ab bt.length cb) bt.length (recCells bt) ∧ V6.heap[XB]? = some (.cells #[.int .i64 r.mac, .int .i64 r.seq, .int .i64 r.min, .int .u8 r.kind, .int .i64 r.a, .int .i64 r.b] 89 (0, 0)))) ⟨HJs.out _ _ _ HJ5.out hT6, Hb5.out.trans ((hT6.below (Nat.le_of_lt hs5)).mono hw0B), Nat.lt_of_lt_of_le hs5 hT6.size, hT6.blk HL5.out (.inr notL), hput, own_sets HO5.out HS5.out (by decide) [(6, .int .i64 r.mac), (7, .int .i64 r.seq), (8, .int .i64 r.min), (9, .int .u8 r.kind), (10, .int .i64 r.a), (11, .int .i64 r.b)], (blk_other (blk_other (blk_other (blk_other (blk_other (blk_other HX5.out hXS (.int .i64 r.mac) (o := 6)) hXS (.int .i64 r.seq) (o := 7)) hXS (.int .i64 r.min) (o := 8)) hXS (.int .u8 r.kind) (o := 9)) hXS (.int .i64 r.a) (o := 10)) hXS (.int .i64 r.b) (o := 11))⟩ (fun V6 hV6 => ?_)
            clear hput hT6
            obtain ⟨qJ6, qb6, hs6, qL6, qS6, qO6, qX6⟩ := hV6
            have HJ6 := Lib.hid qJ6
            have Hb6 := Lib.hid qb6
            have HL6 := Lib.hid qL6
            have HS6 := Lib.hid qS6
            have HO6 := Lib.hid qO6
            have HX6 := Lib.hid qX6
            clear qJ6 qb6 qL6 qS6 qO6 qX6
            have hG6 : GS ⟨fr, r, bt, Ab, cb⟩ V6 := recs_of_own HO6.out
            have hSx : SP x (ys ++ [⟨fr, r, bt, Ab, cb⟩]) := ⟨_, by rw [List.map_append, List.append_assoc]; exact Hstep.out⟩
            obtain ⟨fn, tmps, assign, body, hy, hR⟩ := HY.out ys ⟨fr, r, bt, Ab, cb⟩ V6 HJ6.out hG6 hSx
            simp only [encS, List.length_nil] at hy
            have gs6 := box_cells HS6.out
            have s0 := gs6 0
            have s1 := gs6 1
            have s2 := gs6 2
            have s3 := gs6 3
            have s4 := gs6 4
            have s5 := gs6 5
            have s6 := gs6 6
            have s7 := gs6 7
            have s8 := gs6 8
            have s9 := gs6 9
            have s10 := gs6 10
            have s11 := gs6 11
            have s12 := gs6 12
            have sf := box_frozen HS6.out
            simp only [List.getElem?_toArray, List.getElem?_cons_zero, List.getElem?_cons_succ] at s0 s1 s2 s3 s4 s5 s6 s7 s8 s9 s10 s11 s12
            clear gs6
            refine (wpIn_wide (n := n)).1 ?_
            gi_wp2
            refine hR.mono ?_
            rintro e W7 ⟨rfl, hJ7, hk7⟩
            clear s0 s1 s2 s3 s4 s5 s6 s7 s8 s9 s10 s11 s12 sf
            have HJ7 := Lib.hid hJ7
            have Hb7 := Lib.hid (Hb6.out.trans hk7.low)
            have hs7 : B0 < W7.heap.size := Nat.lt_of_lt_of_le hs6 hk7.low.size
            have HL7 := Lib.hid (hk7.typ _ _ _ _ HL6.out (.inr rfl))
            have HS7 := Lib.hid (hk7.typ _ _ _ _ HS6.out (.inl (.inl rfl)))
            have HX7 := Lib.hid (hk7.typ _ _ _ _ HX6.out (.inl (.inr rfl)))
            clear hJ7 hk7 hy hR hG6 hSx
            have gs7 := box_cells HS7.out
            have s0 := gs7 0
            have s1 := gs7 1
            have s2 := gs7 2
            have s3 := gs7 3
            have s4 := gs7 4
            have s5 := gs7 5
            have s6 := gs7 6
            have s7 := gs7 7
            have s8 := gs7 8
            have s9 := gs7 9
            have s10 := gs7 10
            have s11 := gs7 11
            have s12 := gs7 12
            have sf := box_frozen HS7.out
            simp only [List.getElem?_toArray, List.getElem?_cons_zero, List.getElem?_cons_succ] at s0 s1 s2 s3 s4 s5 s6 s7 s8 s9 s10 s11 s12
            clear gs7
            have gx7 := box_cells HX7.out
            have x0 := gx7 0
            have x1 := gx7 1
            have x2 := gx7 2
            have x3 := gx7 3
            have x4 := gx7 4
            have x5 := gx7 5
            simp only [List.getElem?_toArray, List.getElem?_cons_zero, List.getElem?_cons_succ] at x0 x1 x2 x3 x4 x5
            clear gx7
            gi_wp2
            go_upto_region 11 with (fail)
            clear s0 s1 s2 s3 s4 s5 s6 s7 s8 s9 s10 s11 s12 sf x0 x1 x2 x3 x4 x5
            have hput := (blk_set (blk_set (blk_set (blk_set (blk_set (blk_set (blk_set (blk_set (blk_set (blk_set (blk_set (blk_set (blk_set HS7.out (o := 0) (.int .i64 r.mac)) (o := 1) (.int .i64 r.seq)) (o := 2) (.int .i64 r.min)) (o := 3) (.int .u8 r.kind)) (o := 4) (.int .i64 r.a)) (o := 5) (.int .i64 r.b)) (o := 6) (.int .i64 0)) (o := 7) (.int .i64 0)) (o := 8) (.int .i64 0)) (o := 9) (.int .u8 0)) (o := 10) (.int .i64 0)) (o := 11) (.int .i64 0)) (o := 12) (.slice none 0 0))
            simp only [List.setIfInBounds_toArray, List.set_cons_succ, List.set_cons_zero] at hput
            have hT8 := Turns.sets (T := TS) (g := SB) hSB0 (Or.inl rfl) [(0, .int .i64 r.mac), (1, .int .i64 r.seq), (2, .int .i64 r.min), (3, .int .u8 r.kind), (4, .int .i64 r.a), (5, .int .i64 r.b), (6, .int .i64 0), (7, .int .i64 0), (8, .int .i64 0), (9, .int .u8 0), (10, .int .i64 0), (11, .int .i64 0), (12, .slice none 0 0)] HS7.out
            refine wp_name (fun V8 => (J (ys ++ [⟨fr, r, bt, Ab, cb⟩]) V8 ∧ Below w0.heap.size w0 V8 ∧ B0 < V8.heap.size ∧ V8.heap[LB]? = some (.cells #[.slice (some ⟨b2, o2, none⟩) N c] 37 (0, 0)) ∧ V8.heap[SB]? = some (.cells #[.int .i64 r.mac, .int .i64 r.seq, .int .i64 r.min, .int .u8 r.kind, .int .i64 r.a, .int .i64 r.b, .int .i64 (zeroR 0).mac, .int .i64 (zeroR 0).seq, .int .i64 (zeroR 0).min, .int .u8 (zeroR 0).kind, .int .i64 (zeroR 0).a, .int .i64 (zeroR 0).b, .slice none ([] : List Rc).length 0] 97 (0, 0)) ∧ V8.ownsRow B0 89 6 (.slice none ([] : List Rc).length 0) ([] : List Rc).length (recCells ([] : List Rc)) ∧ V8.heap[XB]? = some (.cells #[.int .i64 r.mac, .int .i64 r.seq, .int .i64 r.min, .int .u8 r.kind, .int .i64 r.a, .int .i64 r.b] 89 (0, 0)))) ⟨HJs.out _ _ _ HJ7.out hT8, Hb7.out.trans ((hT8.below (Nat.le_of_lt hs7)).mono hw0B), Nat.lt_of_lt_of_le hs7 hT8.size, hT8.blk HL7.out (.inr notL), hput, World.ownsRow_nil _ _ _ _, (blk_other (blk_other (blk_other (blk_other (blk_other (blk_other (blk_other (blk_other (blk_other (blk_other (blk_other (blk_other (blk_other HX7.out hXS (.int .i64 r.mac) (o := 0)) hXS (.int .i64 r.seq) (o := 1)) hXS (.int .i64 r.min) (o := 2)) hXS (.int .u8 r.kind) (o := 3)) hXS (.int .i64 r.a) (o := 4)) hXS (.int .i64 r.b) (o := 5)) hXS (.int .i64 0) (o := 6)) hXS (.int .i64 0) (o := 7)) hXS (.int .i64 0) (o := 8)) hXS (.int .u8 0) (o := 9)) hXS (.int .i64 0) (o := 10)) hXS (.int .i64 0) (o := 11)) hXS (.slice none 0 0) (o := 12))⟩ (fun V8 hV8 => ?_)
            clear hput hT8
            obtain ⟨qJ8, qb8, hs8, qL8, qS8, qO8, qX8⟩ := hV8
            have HJ8 := Lib.hid qJ8
            have Hb8 := Lib.hid qb8
            have HL8 := Lib.hid qL8
            have HS8 := Lib.hid qS8
            have HO8 := Lib.hid qO8
            have HX8 := Lib.hid qX8
            clear qJ8 qb8 qL8 qS8 qO8 qX8
            go_wp2
            go_roundw
            case rel =>
              refine ⟨i + 1, ys ++ [⟨fr, r, bt, Ab, cb⟩], r, zeroR 0, [], none, 0, by omega, by go_num, HJ8.out, Hb8.out, hs8, HL8.out, HS8.out, HO8.out, by simp, ?_⟩
              rw [Htk.out, List.getLast?_concat, List.map_append, List.append_assoc]
              exact Hstep.out
            case measure => simp [intOf]; omega
          · have k2b : (r.kind != 2) = true := by simpa using k2
            have hstep := HE.out
            rw [Hdr.out, strL_other k2] at hstep
            simp only [HF.out.1, HF.out.2] at hstep
            have Hstep := Lib.hid hstep
            clear hstep k2
            have gs5 := box_cells HS5.out
            have s0 := gs5 0
            have s1 := gs5 1
            have s2 := gs5 2
            have s3 := gs5 3
            have s4 := gs5 4
            have s5 := gs5 5
            have s6 := gs5 6
            have s7 := gs5 7
            have s8 := gs5 8
            have s9 := gs5 9
            have s10 := gs5 10
            have s11 := gs5 11
            have s12 := gs5 12
            have sf := box_frozen HS5.out
            simp only [List.getElem?_toArray, List.getElem?_cons_zero, List.getElem?_cons_succ] at s0 s1 s2 s3 s4 s5 s6 s7 s8 s9 s10 s11 s12
            clear gs5
            have gx5 := box_cells HX5.out
            have x0 := gx5 0
            have x1 := gx5 1
            have x2 := gx5 2
            have x3 := gx5 3
            have x4 := gx5 4
            have x5 := gx5 5
            simp only [List.getElem?_toArray, List.getElem?_cons_zero, List.getElem?_cons_succ] at x0 x1 x2 x3 x4 x5
            clear gx5
            have hbl2 : bt.length ≤ 60 := by omega
            go_upto_region 11 with (at_builtin; go_loud (refine wpList_append_src _ rfl (.tmp 34) (.tmp 36) 37 rfl B0 89 i0 _ 6 48 Tryz.underlying37 hi0 hz0 hz1 hz2 rfl (by omega) _ bt.length _ rfl (HO5.out.alloc _) (some ⟨V5.heap.size, 0, none⟩) 1 1 (recC r) rfl (src_new V5 (recC r) 89 1 6 rfl) (by simp [recC, Value.oneCell']) (by simp [maxLen] <;> omega) (by omega) (by simp <;> omega) ?_); intro v2 w2 hown2 hg2 _; have hS2 := own_type_kept (HO5.out.alloc (.cells (recC r).toArray 89)) hg2 ((Below.heap_alloc _ _ _ (Array.getElem?_eq_some_iff.1 HS5.out).1).trans HS5.out) (by decide); have hT2 := ((Turns.refl V5).alloc (B := B0) (T := TS) (.cells (recC r).toArray 89)).trans (Turns.own (HO5.out.alloc _) hg2 (Or.inr rfl : TS 89) (Nat.le_refl _)); obtain ⟨A2, c2, rfl⟩ := own_form hown2; clear s0 s1 s2 s3 s4 s5 s6 s7 s8 s9 s10 s11 s12 sf x0 x1 x2 x3 x4 x5; have gs2 := box_cells hS2 12; have sf := box_frozen hS2; simp only [List.getElem?_toArray, List.getElem?_cons_zero, List.getElem?_cons_succ] at gs2; have Hown2 := Lib.hid hown2; have HS2 := Lib.hid hS2; have HT2 := Lib.hid hT2; clear hg2 hown2 hS2 hT2)
            clear gs2 sf
            have hput := blk_set HS2.out (o := 12) (.slice A2 (bt.length + 1) c2)
            simp only [List.setIfInBounds_toArray, List.set_cons_succ, List.set_cons_zero] at hput
            have hT6 := HT2.out.trans (Turns.set (B := B0) (T := TS) 12 (.slice A2 (bt.length + 1) c2) hSB0 HS2.out (Or.inl rfl))
            have hO6 := own_sets Hown2.out HS2.out (by decide) [(12, .slice A2 (bt.length + 1) c2)]
            refine wp_name (fun V => J ys V ∧ Below w0.heap.size w0 V ∧ B0 < V.heap.size ∧ V.heap[LB]? = some (.cells #[.slice (some ⟨b2, o2, none⟩) N c] 37 (0, 0)) ∧ V.heap[SB]? = some (.cells #[.int .i64 fr.mac, .int .i64 fr.seq, .int .i64 fr.min, .int .u8 fr.kind, .int .i64 fr.a, .int .i64 fr.b, .int .i64 tr.mac, .int .i64 tr.seq, .int .i64 tr.min, .int .u8 tr.kind, .int .i64 tr.a, .int .i64 tr.b, .slice A2 (bt.length + 1) c2] 97 (0, 0)) ∧ V.ownsRow B0 89 6 (.slice A2 (bt.length + 1) c2) (bt.length + 1) (recCells bt ++ recC r)) ⟨HJs.out _ _ _ HJ5.out hT6, Hb5.out.trans ((hT6.below (Nat.le_of_lt hs5)).mono hw0B), Nat.lt_of_lt_of_le hs5 hT6.size, hT6.blk HL5.out (.inr notL), hput, hO6⟩ (fun V6 hV6 => ?_)
            obtain ⟨qJ, qb, qs, qL, qS, qO⟩ := hV6
            have HJ6 := Lib.hid qJ
            have Hb6 := Lib.hid qb
            have HL6 := Lib.hid qL
            have HS6 := Lib.hid qS
            have HO6 := Lib.hid qO
            clear hput hT6 hO6 qJ qb qL qS qO HS2 HT2 Hown2
            go_wp2
            go_roundw
            case rel =>
              refine ⟨i + 1, ys, fr, tr, bt ++ [r], A2, c2, by omega, by go_num, HJ6.out, Hb6.out, qs, HL6.out, by rw [List.length_append]; exact HS6.out, by rw [List.length_append, recCells_snoc]; exact HO6.out, by rw [List.length_append]; simp <;> omega, ?_⟩
              rw [Htk.out, List.getLast?_concat]
              exact Hstep.out
            case measure => simp [intOf]; omega
        · have m1 : (p.mac != r.mac) = true := by simpa using hm
          have hpm : (x.take i).getLast?.map Rc.mac ≠ some r.mac := by rw [hlast]; exact fun h => hm (Option.some.inj h)
          have hF1 : (if (x.take i).getLast?.map Rc.mac = some r.mac then fr else zeroR r.mac) = zeroR r.mac := if_neg hpm
          have hF2 : (if (x.take i).getLast?.map Rc.mac = some r.mac then bt else []) = ([] : List Rc) := if_neg hpm
          have HF := Lib.hid (And.intro hF1 hF2)
          clear hpm hF1 hF2 hm hlast hp hrec hi0 hj y1 y2 y3 y4 y5
          go_quiet (fail)
          go_upto_region 5 with (fail)
          clear m1 e0 e1 e2 q1 q2 q3 l0 x0 y0
          refine wp_name (fun V4 => (J ys V4 ∧ Below w0.heap.size w0 V4 ∧ B0 < V4.heap.size ∧ V4.heap[LB]? = some (.cells #[.slice (some ⟨b2, o2, none⟩) N c] 37 (0, 0)) ∧ V4.heap[SB]? = some (.cells #[.int .i64 fr.mac, .int .i64 fr.seq, .int .i64 fr.min, .int .u8 fr.kind, .int .i64 fr.a, .int .i64 fr.b, .int .i64 tr.mac, .int .i64 tr.seq, .int .i64 tr.min, .int .u8 tr.kind, .int .i64 tr.a, .int .i64 tr.b, .slice Ab bt.length cb] 97 (0, 0)) ∧ V4.ownsRow B0 89 6 (.slice Ab bt.length cb) bt.length (recCells bt) ∧ V4.heap[XB]? = some (.cells #[.int .i64 r.mac, .int .i64 r.seq, .int .i64 r.min, .int .u8 r.kind, .int .i64 r.a, .int .i64 r.b] 89 (0, 0)))) ⟨HJs.out _ _ _ HJ1.out ((Turns.refl _).drewN _), below_drewN Hb1.out _, hs1, HL1.out, HS1.out, own_below HO1.out (below_drewN (Below.refl _ _) _), HX1.out⟩ (fun V4 hV4 => ?_)
          obtain ⟨qJ4, qb4, hs4, qL4, qS4, qO4, qX4⟩ := hV4
          have HJ4 := Lib.hid qJ4
          have Hb4 := Lib.hid qb4
          have HL4 := Lib.hid qL4
          have HS4 := Lib.hid qS4
          have HO4 := Lib.hid qO4
          have HX4 := Lib.hid qX4
          clear qJ4 qb4 qL4 qS4 qO4 qX4
          have gs4 := box_cells HS4.out
          have s0 := gs4 0
          have s1 := gs4 1
          have s2 := gs4 2
          have s3 := gs4 3
          have s4 := gs4 4
          have s5 := gs4 5
          have s6 := gs4 6
          have s7 := gs4 7
          have s8 := gs4 8
          have s9 := gs4 9
          have s10 := gs4 10
          have s11 := gs4 11
          have s12 := gs4 12
          have sf := box_frozen HS4.out
          simp only [List.getElem?_toArray, List.getElem?_cons_zero, List.getElem?_cons_succ] at s0 s1 s2 s3 s4 s5 s6 s7 s8 s9 s10 s11 s12
          clear gs4
          have gx4 := box_cells HX4.out
          have x0 := gx4 0
          have x1 := gx4 1
          have x2 := gx4 2
          have x3 := gx4 3
          have x4 := gx4 4
          have x5 := gx4 5
          simp only [List.getElem?_toArray, List.getElem?_cons_zero, List.getElem?_cons_succ] at x0 x1 x2 x3 x4 x5
          clear gx4
          go_upto_region 6 with (fail)
          clear s0 s1 s2 s3 s4 s5 s6 s7 s8 s9 s10 s11 s12 sf x0 x1 x2 x3 x4 x5
          have hput := (blk_set (blk_set (blk_set (blk_set (blk_set (blk_set (blk_set (blk_set (blk_set (blk_set (blk_set (blk_set (blk_set HS4.out (o := 0) (.int .i64 r.mac)) (o := 1) (.int .i64 0)) (o := 2) (.int .i64 0)) (o := 3) (.int .u8 0)) (o := 4) (.int .i64 0)) (o := 5) (.int .i64 0)) (o := 6) (.int .i64 0)) (o := 7) (.int .i64 0)) (o := 8) (.int .i64 0)) (o := 9) (.int .u8 0)) (o := 10) (.int .i64 0)) (o := 11) (.int .i64 0)) (o := 12) (.slice none 0 0))
          simp only [List.setIfInBounds_toArray, List.set_cons_succ, List.set_cons_zero] at hput
          have hT5 := Turns.sets (T := TS) (g := SB) hSB0 (Or.inl rfl) [(0, .int .i64 r.mac), (1, .int .i64 0), (2, .int .i64 0), (3, .int .u8 0), (4, .int .i64 0), (5, .int .i64 0), (6, .int .i64 0), (7, .int .i64 0), (8, .int .i64 0), (9, .int .u8 0), (10, .int .i64 0), (11, .int .i64 0), (12, .slice none 0 0)] HS4.out
          refine wp_name (fun V5 => (J ys V5 ∧ Below w0.heap.size w0 V5 ∧ B0 < V5.heap.size ∧ V5.heap[LB]? = some (.cells #[.slice (some ⟨b2, o2, none⟩) N c] 37 (0, 0)) ∧ V5.heap[SB]? = some (.cells #[.int .i64 (zeroR r.mac).mac, .int .i64 (zeroR r.mac).seq, .int .i64 (zeroR r.mac).min, .int .u8 (zeroR r.mac).kind, .int .i64 (zeroR r.mac).a, .int .i64 (zeroR r.mac).b, .int .i64 (zeroR 0).mac, .int .i64 (zeroR 0).seq, .int .i64 (zeroR 0).min, .int .u8 (zeroR 0).kind, .int .i64 (zeroR 0).a, .int .i64 (zeroR 0).b, .slice none ([] : List Rc).length 0] 97 (0, 0)) ∧ V5.ownsRow B0 89 6 (.slice none ([] : List Rc).length 0) ([] : List Rc).length (recCells ([] : List Rc)) ∧ V5.heap[XB]? = some (.cells #[.int .i64 r.mac, .int .i64 r.seq, .int .i64 r.min, .int .u8 r.kind, .int .i64 r.a, .int .i64 r.b] 89 (0, 0)))) ⟨HJs.out _ _ _ HJ4.out hT5, Hb4.out.trans ((hT5.below (Nat.le_of_lt hs4)).mono hw0B), Nat.lt_of_lt_of_le hs4 hT5.size, hT5.blk HL4.out (.inr notL), hput, World.ownsRow_nil _ _ _ _, (blk_other (blk_other (blk_other (blk_other (blk_other (blk_other (blk_other (blk_other (blk_other (blk_other (blk_other (blk_other (blk_other HX4.out hXS (.int .i64 r.mac) (o := 0)) hXS (.int .i64 0) (o := 1)) hXS (.int .i64 0) (o := 2)) hXS (.int .u8 0) (o := 3)) hXS (.int .i64 0) (o := 4)) hXS (.int .i64 0) (o := 5)) hXS (.int .i64 0) (o := 6)) hXS (.int .i64 0) (o := 7)) hXS (.int .i64 0) (o := 8)) hXS (.int .u8 0) (o := 9)) hXS (.int .i64 0) (o := 10)) hXS (.int .i64 0) (o := 11)) hXS (.slice none 0 0) (o := 12))⟩ (fun V5 hV5 => ?_)
          clear hput hT5
          obtain ⟨qJ5, qb5, hs5, qL5, qS5, qO5, qX5⟩ := hV5
          have HJ5 := Lib.hid qJ5
          have Hb5 := Lib.hid qb5
          have HL5 := Lib.hid qL5
          have HS5 := Lib.hid qS5
          have HO5 := Lib.hid qO5
          have HX5 := Lib.hid qX5
          clear qJ5 qb5 qL5 qS5 qO5 qX5
          by_cases k2 : r.kind = 2
          · have k2b : (r.kind != 2) = false := by simp [k2]
            have hstep := HE.out
            rw [Hdr.out, strL_close k2] at hstep
            simp only [HF.out.1, HF.out.2] at hstep
            have Hstep := Lib.hid hstep
            clear hstep k2
            have gs5 := box_cells HS5.out
            have s0 := gs5 0
            have s1 := gs5 1
            have s2 := gs5 2
            have s3 := gs5 3
            have s4 := gs5 4
            have s5 := gs5 5
            have s6 := gs5 6
            have s7 := gs5 7
            have s8 := gs5 8
            have s9 := gs5 9
            have s10 := gs5 10
            have s11 := gs5 11
            have s12 := gs5 12
            have sf := box_frozen HS5.out
            simp only [List.getElem?_toArray, List.getElem?_cons_zero, List.getElem?_cons_succ] at s0 s1 s2 s3 s4 s5 s6 s7 s8 s9 s10 s11 s12
            clear gs5
            have gx5 := box_cells HX5.out
            have x0 := gx5 0
            have x1 := gx5 1
            have x2 := gx5 2
            have x3 := gx5 3
            have x4 := gx5 4
            have x5 := gx5 5
            simp only [List.getElem?_toArray, List.getElem?_cons_zero, List.getElem?_cons_succ] at x0 x1 x2 x3 x4 x5
            clear gx5
            go_upto_region 9 with (fail)
            clear s0 s1 s2 s3 s4 s5 s6 s7 s8 s9 s10 s11 s12 sf x0 x1 x2 x3 x4 x5
            have hput := (blk_set (blk_set (blk_set (blk_set (blk_set (blk_set HS5.out (o := 6) (.int .i64 r.mac)) (o := 7) (.int .i64 r.seq)) (o := 8) (.int .i64 r.min)) (o := 9) (.int .u8 r.kind)) (o := 10) (.int .i64 r.a)) (o := 11) (.int .i64 r.b))
            simp only [List.setIfInBounds_toArray, List.set_cons_succ, List.set_cons_zero] at hput
            have hT6 := Turns.sets (T := TS) (g := SB) hSB0 (Or.inl rfl) [(6, .int .i64 r.mac), (7, .int .i64 r.seq), (8, .int .i64 r.min), (9, .int .u8 r.kind), (10, .int .i64 r.a), (11, .int .i64 r.b)] HS5.out
            refine wp_name (fun V6 => (J ys V6 ∧ Below w0.heap.size w0 V6 ∧ B0 < V6.heap.size ∧ V6.heap[LB]? = some (.cells #[.slice (some ⟨b2, o2, none⟩) N c] 37 (0, 0)) ∧ V6.heap[SB]? = some (.cells #[.int .i64 (zeroR r.mac).mac, .int .i64 (zeroR r.mac).seq, .int .i64 (zeroR r.mac).min, .int .u8 (zeroR r.mac).kind, .int .i64 (zeroR r.mac).a, .int .i64 (zeroR r.mac).b, .int .i64 r.mac, .int .i64 r.seq, .int .i64 r.min, .int .u8 r.kind, .int .i64 r.a, .int .i64 r.b, .slice none ([] : List Rc).length 0] 97 (0, 0)) ∧ V6.ownsRow B0 89 6 (.slice none ([] : List Rc).length 0) ([] : List Rc).length (recCells ([] : List Rc)) ∧ V6.heap[XB]? = some (.cells #[.int .i64 r.mac, .int .i64 r.seq, .int .i64 r.min, .int .u8 r.kind, .int .i64 r.a, .int .i64 r.b] 89 (0, 0)))) ⟨HJs.out _ _ _ HJ5.out hT6, Hb5.out.trans ((hT6.below (Nat.le_of_lt hs5)).mono hw0B), Nat.lt_of_lt_of_le hs5 hT6.size, hT6.blk HL5.out (.inr notL), hput, own_sets HO5.out HS5.out (by decide) [(6, .int .i64 r.mac), (7, .int .i64 r.seq), (8, .int .i64 r.min), (9, .int .u8 r.kind), (10, .int .i64 r.a), (11, .int .i64 r.b)], (blk_other (blk_other (blk_other (blk_other (blk_other (blk_other HX5.out hXS (.int .i64 r.mac) (o := 6)) hXS (.int .i64 r.seq) (o := 7)) hXS (.int .i64 r.min) (o := 8)) hXS (.int .u8 r.kind) (o := 9)) hXS (.int .i64 r.a) (o := 10)) hXS (.int .i64 r.b) (o := 11))⟩ (fun V6 hV6 => ?_)
            clear hput hT6
            obtain ⟨qJ6, qb6, hs6, qL6, qS6, qO6, qX6⟩ := hV6
            have HJ6 := Lib.hid qJ6
            have Hb6 := Lib.hid qb6
            have HL6 := Lib.hid qL6
            have HS6 := Lib.hid qS6
            have HO6 := Lib.hid qO6
            have HX6 := Lib.hid qX6
            clear qJ6 qb6 qL6 qS6 qO6 qX6
            have hG6 : GS ⟨(zeroR r.mac), r, ([] : List Rc), none, 0⟩ V6 := recs_of_own HO6.out
            have hSx : SP x (ys ++ [⟨(zeroR r.mac), r, ([] : List Rc), none, 0⟩]) := ⟨_, by rw [List.map_append, List.append_assoc]; exact Hstep.out⟩
            obtain ⟨fn, tmps, assign, body, hy, hR⟩ := HY.out ys ⟨(zeroR r.mac), r, ([] : List Rc), none, 0⟩ V6 HJ6.out hG6 hSx
            simp only [encS, List.length_nil] at hy
            have gs6 := box_cells HS6.out
            have s0 := gs6 0
            have s1 := gs6 1
            have s2 := gs6 2
            have s3 := gs6 3
            have s4 := gs6 4
            have s5 := gs6 5
            have s6 := gs6 6
            have s7 := gs6 7
            have s8 := gs6 8
            have s9 := gs6 9
            have s10 := gs6 10
            have s11 := gs6 11
            have s12 := gs6 12
            have sf := box_frozen HS6.out
            simp only [List.getElem?_toArray, List.getElem?_cons_zero, List.getElem?_cons_succ] at s0 s1 s2 s3 s4 s5 s6 s7 s8 s9 s10 s11 s12
            clear gs6
            refine (wpIn_wide (n := n)).1 ?_
            gi_wp2
            refine hR.mono ?_
            rintro e W7 ⟨rfl, hJ7, hk7⟩
            clear s0 s1 s2 s3 s4 s5 s6 s7 s8 s9 s10 s11 s12 sf
            have HJ7 := Lib.hid hJ7
            have Hb7 := Lib.hid (Hb6.out.trans hk7.low)
            have hs7 : B0 < W7.heap.size := Nat.lt_of_lt_of_le hs6 hk7.low.size
            have HL7 := Lib.hid (hk7.typ _ _ _ _ HL6.out (.inr rfl))
            have HS7 := Lib.hid (hk7.typ _ _ _ _ HS6.out (.inl (.inl rfl)))
            have HX7 := Lib.hid (hk7.typ _ _ _ _ HX6.out (.inl (.inr rfl)))
            clear hJ7 hk7 hy hR hG6 hSx
            have gs7 := box_cells HS7.out
            have s0 := gs7 0
            have s1 := gs7 1
            have s2 := gs7 2
            have s3 := gs7 3
            have s4 := gs7 4
            have s5 := gs7 5
            have s6 := gs7 6
            have s7 := gs7 7
            have s8 := gs7 8
            have s9 := gs7 9
            have s10 := gs7 10
            have s11 := gs7 11
            have s12 := gs7 12
            have sf := box_frozen HS7.out
            simp only [List.getElem?_toArray, List.getElem?_cons_zero, List.getElem?_cons_succ] at s0 s1 s2 s3 s4 s5 s6 s7 s8 s9 s10 s11 s12
            clear gs7
            have gx7 := box_cells HX7.out
            have x0 := gx7 0
            have x1 := gx7 1
            have x2 := gx7 2
            have x3 := gx7 3
            have x4 := gx7 4
            have x5 := gx7 5
            simp only [List.getElem?_toArray, List.getElem?_cons_zero, List.getElem?_cons_succ] at x0 x1 x2 x3 x4 x5
            clear gx7
            gi_wp2
            go_upto_region 11 with (fail)
            clear s0 s1 s2 s3 s4 s5 s6 s7 s8 s9 s10 s11 s12 sf x0 x1 x2 x3 x4 x5
            have hput := (blk_set (blk_set (blk_set (blk_set (blk_set (blk_set (blk_set (blk_set (blk_set (blk_set (blk_set (blk_set (blk_set HS7.out (o := 0) (.int .i64 r.mac)) (o := 1) (.int .i64 r.seq)) (o := 2) (.int .i64 r.min)) (o := 3) (.int .u8 r.kind)) (o := 4) (.int .i64 r.a)) (o := 5) (.int .i64 r.b)) (o := 6) (.int .i64 0)) (o := 7) (.int .i64 0)) (o := 8) (.int .i64 0)) (o := 9) (.int .u8 0)) (o := 10) (.int .i64 0)) (o := 11) (.int .i64 0)) (o := 12) (.slice none 0 0))
            simp only [List.setIfInBounds_toArray, List.set_cons_succ, List.set_cons_zero] at hput
            have hT8 := Turns.sets (T := TS) (g := SB) hSB0 (Or.inl rfl) [(0, .int .i64 r.mac), (1, .int .i64 r.seq), (2, .int .i64 r.min), (3, .int .u8 r.kind), (4, .int .i64 r.a), (5, .int .i64 r.b), (6, .int .i64 0), (7, .int .i64 0), (8, .int .i64 0), (9, .int .u8 0), (10, .int .i64 0), (11, .int .i64 0), (12, .slice none 0 0)] HS7.out
            refine wp_name (fun V8 => (J (ys ++ [⟨(zeroR r.mac), r, ([] : List Rc), none, 0⟩]) V8 ∧ Below w0.heap.size w0 V8 ∧ B0 < V8.heap.size ∧ V8.heap[LB]? = some (.cells #[.slice (some ⟨b2, o2, none⟩) N c] 37 (0, 0)) ∧ V8.heap[SB]? = some (.cells #[.int .i64 r.mac, .int .i64 r.seq, .int .i64 r.min, .int .u8 r.kind, .int .i64 r.a, .int .i64 r.b, .int .i64 (zeroR 0).mac, .int .i64 (zeroR 0).seq, .int .i64 (zeroR 0).min, .int .u8 (zeroR 0).kind, .int .i64 (zeroR 0).a, .int .i64 (zeroR 0).b, .slice none ([] : List Rc).length 0] 97 (0, 0)) ∧ V8.ownsRow B0 89 6 (.slice none ([] : List Rc).length 0) ([] : List Rc).length (recCells ([] : List Rc)) ∧ V8.heap[XB]? = some (.cells #[.int .i64 r.mac, .int .i64 r.seq, .int .i64 r.min, .int .u8 r.kind, .int .i64 r.a, .int .i64 r.b] 89 (0, 0)))) ⟨HJs.out _ _ _ HJ7.out hT8, Hb7.out.trans ((hT8.below (Nat.le_of_lt hs7)).mono hw0B), Nat.lt_of_lt_of_le hs7 hT8.size, hT8.blk HL7.out (.inr notL), hput, World.ownsRow_nil _ _ _ _, (blk_other (blk_other (blk_other (blk_other (blk_other (blk_other (blk_other (blk_other (blk_other (blk_other (blk_other (blk_other (blk_other HX7.out hXS (.int .i64 r.mac) (o := 0)) hXS (.int .i64 r.seq) (o := 1)) hXS (.int .i64 r.min) (o := 2)) hXS (.int .u8 r.kind) (o := 3)) hXS (.int .i64 r.a) (o := 4)) hXS (.int .i64 r.b) (o := 5)) hXS (.int .i64 0) (o := 6)) hXS (.int .i64 0) (o := 7)) hXS (.int .i64 0) (o := 8)) hXS (.int .u8 0) (o := 9)) hXS (.int .i64 0) (o := 10)) hXS (.int .i64 0) (o := 11)) hXS (.slice none 0 0) (o := 12))⟩ (fun V8 hV8 => ?_)
            clear hput hT8
            obtain ⟨qJ8, qb8, hs8, qL8, qS8, qO8, qX8⟩ := hV8
            have HJ8 := Lib.hid qJ8
            have Hb8 := Lib.hid qb8
            have HL8 := Lib.hid qL8
            have HS8 := Lib.hid qS8
            have HO8 := Lib.hid qO8
            have HX8 := Lib.hid qX8
            clear qJ8 qb8 qL8 qS8 qO8 qX8
            go_wp2
            go_roundw
            case rel =>
              refine ⟨i + 1, ys ++ [⟨(zeroR r.mac), r, ([] : List Rc), none, 0⟩], r, zeroR 0, [], none, 0, by omega, by go_num, HJ8.out, Hb8.out, hs8, HL8.out, HS8.out, HO8.out, by simp, ?_⟩
              rw [Htk.out, List.getLast?_concat, List.map_append, List.append_assoc]
              exact Hstep.out
            case measure => simp [intOf]; omega
          · have k2b : (r.kind != 2) = true := by simpa using k2
            have hstep := HE.out
            rw [Hdr.out, strL_other k2] at hstep
            simp only [HF.out.1, HF.out.2] at hstep
            have Hstep := Lib.hid hstep
            clear hstep k2
            have gs5 := box_cells HS5.out
            have s0 := gs5 0
            have s1 := gs5 1
            have s2 := gs5 2
            have s3 := gs5 3
            have s4 := gs5 4
            have s5 := gs5 5
            have s6 := gs5 6
            have s7 := gs5 7
            have s8 := gs5 8
            have s9 := gs5 9
            have s10 := gs5 10
            have s11 := gs5 11
            have s12 := gs5 12
            have sf := box_frozen HS5.out
            simp only [List.getElem?_toArray, List.getElem?_cons_zero, List.getElem?_cons_succ] at s0 s1 s2 s3 s4 s5 s6 s7 s8 s9 s10 s11 s12
            clear gs5
            have gx5 := box_cells HX5.out
            have x0 := gx5 0
            have x1 := gx5 1
            have x2 := gx5 2
            have x3 := gx5 3
            have x4 := gx5 4
            have x5 := gx5 5
            simp only [List.getElem?_toArray, List.getElem?_cons_zero, List.getElem?_cons_succ] at x0 x1 x2 x3 x4 x5
            clear gx5
            have hbl2 : ([] : List Rc).length ≤ 60 := by simp
            go_upto_region 11 with (at_builtin; go_loud (refine wpList_append_src _ rfl (.tmp 34) (.tmp 36) 37 rfl B0 89 i0 _ 6 48 Tryz.underlying37 hi0 hz0 hz1 hz2 rfl (by omega) _ ([] : List Rc).length _ rfl (HO5.out.alloc _) (some ⟨V5.heap.size, 0, none⟩) 1 1 (recC r) rfl (src_new V5 (recC r) 89 1 6 rfl) (by simp [recC, Value.oneCell']) (by simp [maxLen] <;> omega) (by omega) (by simp <;> omega) ?_); intro v2 w2 hown2 hg2 _; have hS2 := own_type_kept (HO5.out.alloc (.cells (recC r).toArray 89)) hg2 ((Below.heap_alloc _ _ _ (Array.getElem?_eq_some_iff.1 HS5.out).1).trans HS5.out) (by decide); have hT2 := ((Turns.refl V5).alloc (B := B0) (T := TS) (.cells (recC r).toArray 89)).trans (Turns.own (HO5.out.alloc _) hg2 (Or.inr rfl : TS 89) (Nat.le_refl _)); obtain ⟨A2, c2, rfl⟩ := own_form hown2; clear s0 s1 s2 s3 s4 s5 s6 s7 s8 s9 s10 s11 s12 sf x0 x1 x2 x3 x4 x5; have gs2 := box_cells hS2 12; have sf := box_frozen hS2; simp only [List.getElem?_toArray, List.getElem?_cons_zero, List.getElem?_cons_succ] at gs2; have Hown2 := Lib.hid hown2; have HS2 := Lib.hid hS2; have HT2 := Lib.hid hT2; clear hg2 hown2 hS2 hT2)
            clear gs2 sf
            have hput := blk_set HS2.out (o := 12) (.slice A2 (([] : List Rc).length + 1) c2)
            simp only [List.setIfInBounds_toArray, List.set_cons_succ, List.set_cons_zero] at hput
            have hT6 := HT2.out.trans (Turns.set (B := B0) (T := TS) 12 (.slice A2 (([] : List Rc).length + 1) c2) hSB0 HS2.out (Or.inl rfl))
            have hO6 := own_sets Hown2.out HS2.out (by decide) [(12, .slice A2 (([] : List Rc).length + 1) c2)]
            refine wp_name (fun V => J ys V ∧ Below w0.heap.size w0 V ∧ B0 < V.heap.size ∧ V.heap[LB]? = some (.cells #[.slice (some ⟨b2, o2, none⟩) N c] 37 (0, 0)) ∧ V.heap[SB]? = some (.cells #[.int .i64 (zeroR r.mac).mac, .int .i64 (zeroR r.mac).seq, .int .i64 (zeroR r.mac).min, .int .u8 (zeroR r.mac).kind, .int .i64 (zeroR r.mac).a, .int .i64 (zeroR r.mac).b, .int .i64 (zeroR 0).mac, .int .i64 (zeroR 0).seq, .int .i64 (zeroR 0).min, .int .u8 (zeroR 0).kind, .int .i64 (zeroR 0).a, .int .i64 (zeroR 0).b, .slice A2 (([] : List Rc).length + 1) c2] 97 (0, 0)) ∧ V.ownsRow B0 89 6 (.slice A2 (([] : List Rc).length + 1) c2) (([] : List Rc).length + 1) (recCells ([] : List Rc) ++ recC r)) ⟨HJs.out _ _ _ HJ5.out hT6, Hb5.out.trans ((hT6.below (Nat.le_of_lt hs5)).mono hw0B), Nat.lt_of_lt_of_le hs5 hT6.size, hT6.blk HL5.out (.inr notL), hput, hO6⟩ (fun V6 hV6 => ?_)
            obtain ⟨qJ, qb, qs, qL, qS, qO⟩ := hV6
            have HJ6 := Lib.hid qJ
            have Hb6 := Lib.hid qb
            have HL6 := Lib.hid qL
            have HS6 := Lib.hid qS
            have HO6 := Lib.hid qO
            clear hput hT6 hO6 qJ qb qL qS qO HS2 HT2 Hown2
            go_wp2
            go_roundw
            case rel =>
              refine ⟨i + 1, ys, (zeroR r.mac), (zeroR 0), ([] : List Rc) ++ [r], A2, c2, by omega, by go_num, HJ6.out, Hb6.out, qs, HL6.out, by rw [List.length_append]; exact HS6.out, by rw [List.length_append, recCells_snoc]; exact HO6.out, by rw [List.length_append]; simp <;> simp, ?_⟩
              rw [Htk.out, List.getLast?_concat]
              exact Hstep.out
            case measure => simp [intOf]; omega
    · obtain rfl : i = N := by omega
      have hE := HE.out
      rw [List.drop_eq_nil_of_le (by rw [HN.out]; exact Nat.le_refl _)] at hE
      simp only [strL, List.append_nil] at hE
      have HE2 := Lib.hid hE
      clear hE
      go_wp2
      rw [Exit.noGoto_normal]
      refine bodyPost_end (results_none rfl _ _ _) rfl ?_
      refine ⟨⟨_, rfl⟩, ys, HJr.out, ⟨[], by rw [HE2.out, List.append_nil]⟩, fun y h => ?_⟩
      have h1 := h.length_le
      have h2 := congrArg List.length HE2.out
      simp at h1 h2
      omega
end Go.Proofs.YtckgapeednokjaaGreat
