import Derived.Test.YtckgapeednokjaaGreatUg
import Derived.Test.YtckgapeednokjaaGreatUh
set_option linter.unusedVariables false
set_option linter.unusedSimpArgs false
namespace Go.Proofs.YtckgapeednokjaaGreat
open Go Go.Proofs Go.RowKit

/-! ### layoverref11.Log -/
theorem recCells_set : ∀ (l : List Rc) (k : Nat) (r : Rc), k < l.length → recCells (l.set k r) = (((((((recCells l).set (k * 6) (.int .i64 r.mac)).set (k * 6 + 1) (.int .i64 r.seq)).set (k * 6 + 2) (.int .i64 r.min)).set (k * 6 + 3) (.int .u8 r.kind)).set (k * 6 + 4) (.int .i64 r.a)).set (k * 6 + 5) (.int .i64 r.b))
  | [], k, r, h => by simp at h
  | x :: t, 0, r, _ => rfl
  | x :: t, k + 1, r, h => by
    have ih := recCells_set t k r (by simpa using h)
    rw [List.set_cons_succ, show (k + 1) * 6 = k * 6 + 6 by omega]
    show recC x ++ recCells (t.set k r) = _
    rw [ih]
    rfl
theorem own_rec {W : World} {base g n c : Nat} {e : TypeId} {l : List Rc} (h : W.ownsRow base e 6 (.slice (some ⟨g, 0, none⟩) n c) n (recCells l)) {k : Nat} {r : Rc} (hk : l[k]? = some r) :
    W.cell? ⟨g, k * 6, none⟩ = some (.int .i64 r.mac) ∧ W.cell? ⟨g, k * 6 + 1, none⟩ = some (.int .i64 r.seq) ∧ W.cell? ⟨g, k * 6 + 2, none⟩ = some (.int .i64 r.min) ∧ W.cell? ⟨g, k * 6 + 3, none⟩ = some (.int .u8 r.kind) ∧ W.cell? ⟨g, k * 6 + 4, none⟩ = some (.int .i64 r.a) ∧ W.cell? ⟨g, k * 6 + 5, none⟩ = some (.int .i64 r.b) := by
  have hlen : (recCells l).length = l.length * 6 := flat_length (f := recC) (n := 6) (fun _ => rfl) l
  have hn : l.length = n := by have := h.1; omega
  have hk' := (List.getElem?_eq_some_iff.1 hk).1
  have key : ∀ j, j < 6 → W.cell? ⟨g, k * 6 + j, none⟩ = (recC r)[j]? := fun j hj => by
    rw [h.cellAt (k * 6 + j) (by omega)]
    exact flat_get (f := recC) (n := 6) (fun _ => rfl) hk hj
  exact ⟨key 0 (by omega), key 1 (by omega), key 2 (by omega), key 3 (by omega), key 4 (by omega), key 5 (by omega)⟩
theorem own_len {W : World} {base n : Nat} {v : Value} {e : TypeId} {l : List Rc} (h : W.ownsRow base e 6 v n (recCells l)) : l.length = n := by
  have hlen : (recCells l).length = l.length * 6 := flat_length (f := recC) (n := 6) (fun _ => rfl) l
  have := h.1
  omega
theorem below_drewN {B : Nat} {a w : World} (h : Below B a w) (n : Nat) : Below B a (w.drewN n) := ⟨h.os, h.tape, h.output, h.size, h.block⟩
/-- A record stored in one's own row. -/
theorem own_put {W : World} {base g n c : Nat} {e : TypeId} {l : List Rc} (h : W.ownsRow base e 6 (.slice (some ⟨g, 0, none⟩) n c) n (recCells l)) {k : Nat} (r : Rc) (hk : k < l.length) :
    ((((((W.setCell ⟨g, k * 6, none⟩ (.int .i64 r.mac)).setCell ⟨g, k * 6 + 1, none⟩ (.int .i64 r.seq)).setCell ⟨g, k * 6 + 2, none⟩ (.int .i64 r.min)).setCell ⟨g, k * 6 + 3, none⟩ (.int .u8 r.kind)).setCell ⟨g, k * 6 + 4, none⟩ (.int .i64 r.a)).setCell ⟨g, k * 6 + 5, none⟩ (.int .i64 r.b)).ownsRow base e 6 (.slice (some ⟨g, 0, none⟩) n c) n (recCells (l.set k r)) := by
  rw [recCells_set l k r hk]
  exact ((((((h.stored (k * 6) (.int .i64 r.mac)).1.stored (k * 6 + 1) (.int .i64 r.seq)).1.stored (k * 6 + 2) (.int .i64 r.min)).1.stored (k * 6 + 3) (.int .u8 r.kind)).1.stored (k * 6 + 4) (.int .i64 r.a)).1.stored (k * 6 + 5) (.int .i64 r.b)).1
theorem below_put {W w : World} {g B : Nat} (h : Below B w W) (k : Nat) (r : Rc) (hgw : B ≤ g) : Below B w ((((((W.setCell ⟨g, k * 6, none⟩ (.int .i64 r.mac)).setCell ⟨g, k * 6 + 1, none⟩ (.int .i64 r.seq)).setCell ⟨g, k * 6 + 2, none⟩ (.int .i64 r.min)).setCell ⟨g, k * 6 + 3, none⟩ (.int .u8 r.kind)).setCell ⟨g, k * 6 + 4, none⟩ (.int .i64 r.a)).setCell ⟨g, k * 6 + 5, none⟩ (.int .i64 r.b)) :=
  ((((((h.setCell (p := ⟨g, k * 6, none⟩) hgw (.int .i64 r.mac)).setCell (p := ⟨g, k * 6 + 1, none⟩) hgw (.int .i64 r.seq)).setCell (p := ⟨g, k * 6 + 2, none⟩) hgw (.int .i64 r.min)).setCell (p := ⟨g, k * 6 + 3, none⟩) hgw (.int .u8 r.kind)).setCell (p := ⟨g, k * 6 + 4, none⟩) hgw (.int .i64 r.a)).setCell (p := ⟨g, k * 6 + 5, none⟩) hgw (.int .i64 r.b))
/-- The log: sorted, of these records. -/
structure LogOf (l F : List Rc) : Prop where
  pw : F.Pairwise Rlt
  mem : ∀ s ∈ F, s ∈ l
  len : F.length ≤ l.length
def GivesLog (l : List Rc) (w : World) (e : Ending) (w' : World) : Prop := ∃ (F : List Rc) (A : Option Addr) (c : Nat), LogOf l F ∧ e = .returned (.slice A F.length c) ∧ w'.ownsRow w.heap.size 31 6 (.slice A F.length c) F.length (recCells F) ∧ Below w.heap.size w w'
set_option maxRecDepth 100000 in
set_option maxHeartbeats 6400000 in
theorem Log_any (u : Value) (l : List Rc) (w : World) (hl : RecsAt w u l) (h60 : l.length ≤ 1000) (hnc : NoCon l) : Calls Tryz.prog 30 #[u] w (GivesLog l w) := by
  obtain ⟨A, c, rfl, _, _⟩ := hl.form
  obtain ⟨i0, hi0, hz0, hz1, hz2⟩ := info_parts infoRc11
  have Hl := Lib.hid hl
  have Hnc := Lib.hid hnc
  clear hl hnc
  go_enter Tryz.func30, Tryz.ntmps30
  go_wp2
  go_loopw [3, 4] (fun x s wr => ∃ (i : Nat) (A' : Option Addr) (c' : Nat) (o : List Rc), i ≤ l.length ∧ s = .int .i64 (i : Int) ∧ x = .slice A' o.length c' ∧ Below w.heap.size w wr ∧ wr.ownsRow w.heap.size 31 6 (.slice A' o.length c') o.length (recCells o) ∧ o.length ≤ i ∧ o.Pairwise Rlt ∧ ∀ s ∈ o, ∃ j, j < i ∧ l[j]? = some s) (fun x s wr => l.length - (intOf s).toNat)
  case atStart => exact ⟨0, none, 0, [], by omega, rfl, rfl, Below.refl _ _, World.ownsRow_nil _ _ _ _, by simp, List.Pairwise.nil, by simp⟩
  case round =>
    obtain ⟨i, A', c', o, hi, rfl, rfl, hb, hown, hoi, hpw, hmem⟩ := hrel
    obtain ⟨wo, rfl⟩ : ∃ wo : World, wo = wr := ⟨_, rfl⟩
    obtain ⟨M, hM⟩ : ∃ M, o.length = M := ⟨_, rfl⟩
    rw [hM] at hown hoi
    have HM := Lib.hid hM
    clear hM
    have Hpw := Lib.hid hpw
    have Hmem := Lib.hid hmem
    have Hown := Lib.hid hown
    have Hb := Lib.hid hb
    have hsz := hb.size
    clear hpw hmem hown hb
    by_cases hil : i < l.length
    · obtain ⟨b1, o1, r, e, hr, _⟩ := Hl.out.at_ hil
      cases e
      have Hr := Lib.hid hr
      clear hr
      rw [HM.out]
      go_wp2
      go_loopw [5, 6] (fun ag s wr => ∃ (k : Nat) (b : Bool), k ≤ M ∧ s = .int .i64 (k : Int) ∧ ag = .bool b ∧ Below wo.heap.size wo wr ∧ (b = false → ∀ j x, j < k → o[j]? = some x → x ≠ r)) (fun ag s wr => M - (intOf s).toNat)
      case atStart => exact ⟨0, false, by omega, rfl, rfl, Below.refl _ _, fun _ j x h => by omega⟩
      case round =>
        obtain ⟨k, b, hk, rfl, rfl, hbk, hno⟩ := hrel
        obtain ⟨wp, rfl⟩ : ∃ wp : World, wp = wr := ⟨_, rfl⟩
        have Hno := Lib.hid hno
        have Hbk := Lib.hid (Hb.out.trans (hbk.mono hsz))
        have HownP := Lib.hid (own_below Hown.out hbk)
        clear hno
        by_cases hkm : k < M
        · have hrec := recs_of_own HownP.out
          rw [← HM.out] at hrec
          obtain ⟨b2, o2, y, e, hy, y0, y1, y2, y3, y4, y5, _⟩ := hrec.at_ (k := k) (by rw [HM.out]; exact hkm)
          subst e
          obtain ⟨b3, o3, x, e, hx, x0, x1, x2, x3, x4, x5, _⟩ := (Hl.out.below Hbk.out).at_ hil
          cases e
          rw [Hr.out] at hx
          cases hx
          have Hy := Lib.hid hy
          clear hy hrec
          cases b with
          | true =>
            go_wp2
            go_quiet (fail)
            go_wp2
            go_roundw
            case rel => exact ⟨k + 1, true, by omega, by go_num, rfl, below_drewN hbk _, fun h => by cases h⟩
            case measure => simp [intOf]; omega
          | false =>
            have qe := fun W : World => rec11_eql W y r
            have qg := fun (W : World) (a b : Operand) => rec11_guard W a b #[.int .i64 y.mac, .int .i64 y.seq, .int .i64 y.min, .int .u8 y.kind, .int .i64 y.a, .int .i64 y.b] #[.int .i64 r.mac, .int .i64 r.seq, .int .i64 r.min, .int .u8 r.kind, .int .i64 r.a, .int .i64 r.b]
            by_cases hyr : y = r
            · have hE : decide (y = r) = true := by simpa using hyr
              rw [hE] at qe
              clear hyr hE
              go_wp2
              go_quiet (fail)
              go_wp2
              go_roundw
              case rel => exact ⟨k + 1, true, by omega, by go_num, rfl, below_drewN hbk _, fun h => by cases h⟩
              case measure => simp [intOf]; omega
            · have hE : decide (y = r) = false := by simpa using hyr
              simp only [hE] at qe
              have Hyr := Lib.hid hyr
              clear hyr hE
              go_wp2
              go_quiet (fail)
              go_wp2
              go_roundw
              case rel =>
                refine ⟨k + 1, false, by omega, by go_num, rfl, below_drewN hbk _, fun _ j z hj hz => ?_⟩
                by_cases e : j = k
                · subst e
                  rw [Hy.out] at hz
                  cases hz
                  exact Hyr.out
                · exact Hno.out (by trivial) j z (by omega) hz
              case measure => simp [intOf]; omega
        · obtain rfl : k = M := by omega
          cases b with
          | true =>
            go_wp2
            go_roundw
            case rel => exact ⟨i + 1, A', c', o, by omega, by go_num, by rw [HM.out], Hbk.out, by rw [HM.out]; exact HownP.out, by rw [HM.out]; omega, Hpw.out, fun s hs => by
              obtain ⟨j, hj, e⟩ := Hmem.out s hs
              exact ⟨j, by omega, e⟩⟩
            case measure => simp [intOf]; omega
          | false =>
            have hnew : ∀ s ∈ o, r ≠ s ∧ contraB r s = false := fun s hs => by
              obtain ⟨j, hj⟩ := List.mem_iff_getElem?.1 hs
              obtain ⟨j', hj', e⟩ := Hmem.out s hs
              exact ⟨fun h => Hno.out (by trivial) j s (by have := (List.getElem?_eq_some_iff.1 hj).1; have := HM.out; omega) hj h.symm, Hnc.out i j' r s hj' Hr.out e⟩
            have Hnew := Lib.hid hnew
            obtain ⟨b3, o3, x, e, hx, x0, x1, x2, x3, x4, x5, _⟩ := (Hl.out.below Hbk.out).at_ hil
            cases e
            rw [Hr.out] at hx
            cases hx
            have hbz := Hbk.out
            have hsz2 := hbk.size
            have hsz3 := hbz.size
            clear hbk hnew
            go_wp2_with (at_builtin; refine wpList_append_src _ rfl (.tmp 33) (.tmp 38) 22 rfl w.heap.size 31 i0 _ 6 48 Tryz.underlying22 hi0 hz0 hz1 hz2 rfl (by omega) _ k _ rfl (HownP.out.alloc _) (some ⟨wp.heap.size, 0, none⟩) 1 1 (recC r) rfl (src_new wp (recC r) 31 1 6 rfl) (by simp [recC, Value.oneCell']) (by simp [maxLen]; omega) (by omega) (by simp; omega) ?_; intro v2 w2 hown2 hg2 _; have hb2 := below_grown (hbz.alloc hsz3 (.cells (recC r).toArray 31)) hg2 (by simp; omega) (HownP.out.alloc _) (Nat.le_refl _); have Hb2 := Lib.hid hb2; obtain ⟨A2, c2, rfl⟩ := own_form hown2; have Hown2 := Lib.hid hown2; clear hown2 hg2 hb2)
            have h0own := Hown2.out
            rw [← recCells_snoc] at h0own
            obtain ⟨g, rfl, hgw, hgl⟩ := own_some h0own (by omega)
            have H0own := Lib.hid h0own
            clear h0own Hown2 x0 x1 x2 x3 x4 x5
            go_loopw [7] (fun s wr => ∃ (m : Nat) (L : List Rc), m ≤ k ∧ InsAt o r m L ∧ s = .int .i64 (m : Int) ∧ Below w.heap.size w wr ∧ wr.ownsRow w.heap.size 31 6 (.slice (some ⟨g, 0, none⟩) (k + 1) c2) (k + 1) (recCells L)) (fun s wr => (intOf s).toNat)
            case atStart => exact ⟨k, o ++ [r], Nat.le_refl _, by have h := InsAt.start o r; rw [HM.out] at h; exact h, by go_num, Hb2.out, H0own.out⟩
            case round =>
              obtain ⟨m, L, hm, hins, rfl, hbm, hownm⟩ := hrel
              obtain ⟨wq, rfl⟩ : ∃ wq : World, wq = wr := ⟨_, rfl⟩
              have Hins := Lib.hid hins
              have Hbm := Lib.hid hbm
              have HownM := Lib.hid hownm
              clear hins hbm hownm
              by_cases hm0 : m = 0
              · have d0 : decide (0 < m) = false := by simp; omega
                have Hm0 := Lib.hid hm0
                clear hm0
                go_wp2
                go_quiet (fail)
                go_wp2
                go_roundw
                case rel =>
                  have hL := (Hm0.out ▸ Hins.out : InsAt o r 0 L).zero Hpw.out Hnew.out
                  have hLl := own_len HownM.out
                  refine ⟨i + 1, some ⟨g, 0, none⟩, c2, L, by omega, by go_num, by rw [hLl], below_drewN Hbm.out _, by rw [hLl]; exact own_below HownM.out (below_drewN (Below.refl _ _) _), by omega, hL, fun s hs => ?_⟩
                  rcases Hins.out.mem s hs with h | rfl
                  · obtain ⟨j, hj, e⟩ := Hmem.out s h
                    exact ⟨j, by omega, e⟩
                  · exact ⟨i, by omega, Hr.out⟩
                case measure => simp [intOf]; omega
              · obtain ⟨j, hj⟩ : ∃ j, m = j + 1 := ⟨m - 1, by omega⟩
                have hins' := Hins.out
                rw [hj] at hins'
                obtain ⟨s, hs, hyes, hno2⟩ := hins'.prev
                have hgm := Hins.out.get
                obtain ⟨s0, s1, s2, s3, s4, s5⟩ := own_rec HownM.out hs
                obtain ⟨r0, r1, r2, r3, r4, r5⟩ := own_rec HownM.out hgm
                have q1 : IntKind.i64.wrap ((m : Int) - 1) = (j : Int) := by rw [IntWalk.i64_in _ (by omega)]; omega
                have q2 : (m : Int) - 1 = (j : Int) := by omega
                have q3 : (j : Int) < (k : Int) + 1 := by omega
                have q4 : (m : Int) < (k : Int) + 1 := by omega
                have q5 : decide (0 < m) = true := by simp; omega
                have Hyes := Lib.hid hyes
                have Hno2 := Lib.hid hno2
                have Hs := Lib.hid hs
                have Hgm := Lib.hid hgm
                have Hj := Lib.hid hj
                have hjm : j ≤ k := by omega
                clear hyes hno2 hs hgm hins' hj hm0
                by_cases h1 : r.mac < s.mac
                · have d1 : decide (r.mac < s.mac) = true := by simpa using h1
                  have HK := Lib.hid (show kltB r s = true by simp [kltB, d1])
                  go_wp2
                  go_quiet (fail)
                  go_upto_region 15 with (fail)
                  refine wp_name (fun W => Below w.heap.size w W ∧ W.ownsRow w.heap.size 31 6 (.slice (some ⟨g, 0, none⟩) (k + 1) c2) (k + 1) (recCells L)) ⟨below_drewN Hbm.out _, own_below HownM.out (below_drewN (Below.refl _ _) _)⟩ (fun V hV => ?_)
                  obtain ⟨hbV, hoV⟩ := hV
                  clear h1 d1
                  clear s0 s1 s2 s3 s4 s5 r0 r1 r2 r3 r4 r5
                  obtain ⟨t0, t1, t2, t3, t4, t5⟩ := own_rec hoV Hs.out
                  refine wp_region_noPanic ?_
                  refine wp_region_pick [0, 1, 2, 3, 4, 5, 6, 7, 8, 9, 10, 11, 12] [13, 14, 15, 16, 17] (fun i => decide (i < 17)) (fun V => Below w.heap.size w V ∧ V.cell? ⟨g, j * 6, none⟩ = some (.int .i64 s.mac) ∧ V.cell? ⟨g, j * 6 + 1, none⟩ = some (.int .i64 s.seq) ∧ V.cell? ⟨g, j * 6 + 2, none⟩ = some (.int .i64 s.min) ∧ V.cell? ⟨g, j * 6 + 3, none⟩ = some (.int .u8 s.kind) ∧ V.cell? ⟨g, j * 6 + 4, none⟩ = some (.int .i64 s.a) ∧ V.cell? ⟨g, j * 6 + 5, none⟩ = some (.int .i64 s.b)) (by kernel_rfl) (by kernel_rfl) (fun _ _ _ _ _ h => h) ⟨hbV.drew, t0, t1, t2, t3, t4, t5⟩ (fun hne => ?_)
                  have n0 := fun q : Meets (fun V => Below w.heap.size w V ∧ V.cell? ⟨g, j * 6, none⟩ = some (.int .i64 s.mac) ∧ V.cell? ⟨g, j * 6 + 1, none⟩ = some (.int .i64 s.seq) ∧ V.cell? ⟨g, j * 6 + 2, none⟩ = some (.int .i64 s.min) ∧ V.cell? ⟨g, j * 6 + 3, none⟩ = some (.int .u8 s.kind) ∧ V.cell? ⟨g, j * 6 + 4, none⟩ = some (.int .i64 s.a) ∧ V.cell? ⟨g, j * 6 + 5, none⟩ = some (.int .i64 s.b)) => q.property.2.1
                  have n1 := fun q : Meets (fun V => Below w.heap.size w V ∧ V.cell? ⟨g, j * 6, none⟩ = some (.int .i64 s.mac) ∧ V.cell? ⟨g, j * 6 + 1, none⟩ = some (.int .i64 s.seq) ∧ V.cell? ⟨g, j * 6 + 2, none⟩ = some (.int .i64 s.min) ∧ V.cell? ⟨g, j * 6 + 3, none⟩ = some (.int .u8 s.kind) ∧ V.cell? ⟨g, j * 6 + 4, none⟩ = some (.int .i64 s.a) ∧ V.cell? ⟨g, j * 6 + 5, none⟩ = some (.int .i64 s.b)) => q.property.2.2.1
                  have n2 := fun q : Meets (fun V => Below w.heap.size w V ∧ V.cell? ⟨g, j * 6, none⟩ = some (.int .i64 s.mac) ∧ V.cell? ⟨g, j * 6 + 1, none⟩ = some (.int .i64 s.seq) ∧ V.cell? ⟨g, j * 6 + 2, none⟩ = some (.int .i64 s.min) ∧ V.cell? ⟨g, j * 6 + 3, none⟩ = some (.int .u8 s.kind) ∧ V.cell? ⟨g, j * 6 + 4, none⟩ = some (.int .i64 s.a) ∧ V.cell? ⟨g, j * 6 + 5, none⟩ = some (.int .i64 s.b)) => q.property.2.2.2.1
                  have n3 := fun q : Meets (fun V => Below w.heap.size w V ∧ V.cell? ⟨g, j * 6, none⟩ = some (.int .i64 s.mac) ∧ V.cell? ⟨g, j * 6 + 1, none⟩ = some (.int .i64 s.seq) ∧ V.cell? ⟨g, j * 6 + 2, none⟩ = some (.int .i64 s.min) ∧ V.cell? ⟨g, j * 6 + 3, none⟩ = some (.int .u8 s.kind) ∧ V.cell? ⟨g, j * 6 + 4, none⟩ = some (.int .i64 s.a) ∧ V.cell? ⟨g, j * 6 + 5, none⟩ = some (.int .i64 s.b)) => q.property.2.2.2.2.1
                  have n4 := fun q : Meets (fun V => Below w.heap.size w V ∧ V.cell? ⟨g, j * 6, none⟩ = some (.int .i64 s.mac) ∧ V.cell? ⟨g, j * 6 + 1, none⟩ = some (.int .i64 s.seq) ∧ V.cell? ⟨g, j * 6 + 2, none⟩ = some (.int .i64 s.min) ∧ V.cell? ⟨g, j * 6 + 3, none⟩ = some (.int .u8 s.kind) ∧ V.cell? ⟨g, j * 6 + 4, none⟩ = some (.int .i64 s.a) ∧ V.cell? ⟨g, j * 6 + 5, none⟩ = some (.int .i64 s.b)) => q.property.2.2.2.2.2.1
                  have n5 := fun q : Meets (fun V => Below w.heap.size w V ∧ V.cell? ⟨g, j * 6, none⟩ = some (.int .i64 s.mac) ∧ V.cell? ⟨g, j * 6 + 1, none⟩ = some (.int .i64 s.seq) ∧ V.cell? ⟨g, j * 6 + 2, none⟩ = some (.int .i64 s.min) ∧ V.cell? ⟨g, j * 6 + 3, none⟩ = some (.int .u8 s.kind) ∧ V.cell? ⟨g, j * 6 + 4, none⟩ = some (.int .i64 s.a) ∧ V.cell? ⟨g, j * 6 + 5, none⟩ = some (.int .i64 s.b)) => q.property.2.2.2.2.2.2
                  simp only [pick, pickN, List.filterMap_cons, List.filterMap_nil, List.getElem?_cons_zero, List.getElem?_cons_succ, Option.map_some]
                  repeat (change wpQuiet _ _ _ _ (_ :: _) _; go_big_quiet_step (fail))
                  refine wpQuiet_nil ?_
                  clear n0 n1 n2 n3 n4 n5 hne t0 t1 t2 t3 t4 t5
                  have B0 := hbV.drew
                  have O0 := own_below hoV ((Below.refl _ _).drew)
                  obtain ⟨X, hX⟩ : ∃ X, X = V.drew := ⟨_, rfl⟩
                  rw [← hX] at B0 O0 ⊢
                  clear hX hbV hoV
                  obtain ⟨t0, t1, t2, t3, t4, t5⟩ := own_rec O0 Hs.out
                  obtain ⟨u0, u1, u2, u3, u4, u5⟩ := own_rec O0 Hgm.out
                  have z0m := O0.frozenAt (m * 6)
                  have z1m := O0.frozenAt (m * 6 + 1)
                  have z2m := O0.frozenAt (m * 6 + 2)
                  have z3m := O0.frozenAt (m * 6 + 3)
                  have z4m := O0.frozenAt (m * 6 + 4)
                  have z5m := O0.frozenAt (m * 6 + 5)
                  have hLm : m < L.length := by rw [own_len HownM.out]; omega
                  have hLj : j < L.length := by omega
                  have hjne : m ≠ j := by have := Hj.out; omega
                  have B1 := below_put B0 m s hgw
                  have O1 := own_put O0 (k := m) s hLm
                  have T1 := own_rec O1 (k := j) (r := s) (by rw [List.getElem?_set_ne hjne]; exact Hs.out)
                  refine wpSeqP_step (fun K hK => ?_)
                  go_simp
                  refine hK.out _ X (fun _ => ⟨B0, t0, t1, t2, t3, t4, t5⟩) ?_
                  clear hK K
                  refine wpSeqP_step (fun K hK => ?_)
                  go_simp
                  refine hK.out _ X (fun _ => ⟨B0, t0, t1, t2, t3, t4, t5⟩) ?_
                  clear hK K
                  refine wpSeqP_step (fun K hK => ?_)
                  go_simp
                  refine hK.out _ _ (fun _ => ⟨B1, T1⟩) ?_
                  clear hK K t0 t1 t2 t3 t4 t5 u0 u1 u2 u3 u4 u5 T1 z0m z1m z2m z3m z4m z5m
                  obtain ⟨X1, hX1⟩ : ∃ X1, X1 = ((((((X.setCell ⟨g, m * 6, none⟩ (.int .i64 s.mac)).setCell ⟨g, m * 6 + 1, none⟩ (.int .i64 s.seq)).setCell ⟨g, m * 6 + 2, none⟩ (.int .i64 s.min)).setCell ⟨g, m * 6 + 3, none⟩ (.int .u8 s.kind)).setCell ⟨g, m * 6 + 4, none⟩ (.int .i64 s.a)).setCell ⟨g, m * 6 + 5, none⟩ (.int .i64 s.b)) := ⟨_, rfl⟩
                  rw [← hX1] at O1 B1 ⊢
                  clear hX1 O0 B0
                  have B2 := below_put B1 j r hgw
                  have O2 := own_put O1 (k := j) r (by rw [List.length_set]; exact hLj)
                  have z0j := O1.frozenAt (j * 6)
                  have z1j := O1.frozenAt (j * 6 + 1)
                  have z2j := O1.frozenAt (j * 6 + 2)
                  have z3j := O1.frozenAt (j * 6 + 3)
                  have z4j := O1.frozenAt (j * 6 + 4)
                  have z5j := O1.frozenAt (j * 6 + 5)
                  have T1 := own_rec O1 (k := j) (r := s) (by rw [List.getElem?_set_ne hjne]; exact Hs.out)
                  refine wpSeqP_step (fun K hK => ?_)
                  go_simp
                  refine hK.out _ X1 (fun _ => ⟨B1, T1⟩) ?_
                  clear hK K
                  refine wpSeqP_step (fun K hK => ?_)
                  go_simp
                  refine hK.out _ _ (fun h => absurd h (by decide)) ?_
                  clear hK K T1 z0j z1j z2j z3j z4j z5j
                  obtain ⟨X2, hX2⟩ : ∃ X2, X2 = ((((((X1.setCell ⟨g, j * 6, none⟩ (.int .i64 r.mac)).setCell ⟨g, j * 6 + 1, none⟩ (.int .i64 r.seq)).setCell ⟨g, j * 6 + 2, none⟩ (.int .i64 r.min)).setCell ⟨g, j * 6 + 3, none⟩ (.int .u8 r.kind)).setCell ⟨g, j * 6 + 4, none⟩ (.int .i64 r.a)).setCell ⟨g, j * 6 + 5, none⟩ (.int .i64 r.b)) := ⟨_, rfl⟩
                  rw [← hX2] at O2 B2 ⊢
                  clear hX2 O1 B1
                  refine wpSeqP_nil ?_
                  refine NoPanic.normal ?_
                  go_wp2
                  go_roundw
                  case rel =>
                    have hI := Hyes.out HK.out
                    rw [← Hj.out] at hI
                    exact ⟨j, _, by omega, hI, by go_num, B2, O2⟩
                  case measure => simp [intOf]; have := Hj.out; omega
                · have d1 : decide (r.mac < s.mac) = false := by simpa using h1
                  by_cases h2 : r.mac = s.mac
                  · have h2b : (r.mac == s.mac) = true := by simpa using h2
                    by_cases h3 : r.seq < s.seq
                    · have d3 : decide (r.seq < s.seq) = true := by simpa using h3
                      have HK := Lib.hid (show kltB r s = true by simp [kltB, d1, d3, h2])
                      clear h2 h1 h3
                      go_wp2
                      go_quiet (fail)
                      go_upto_region 15 with (fail)
                      refine wp_name (fun W => Below w.heap.size w W ∧ W.ownsRow w.heap.size 31 6 (.slice (some ⟨g, 0, none⟩) (k + 1) c2) (k + 1) (recCells L)) ⟨below_drewN Hbm.out _, own_below HownM.out (below_drewN (Below.refl _ _) _)⟩ (fun V hV => ?_)
                      obtain ⟨hbV, hoV⟩ := hV
                      clear d1 h2b d3
                      clear s0 s1 s2 s3 s4 s5 r0 r1 r2 r3 r4 r5
                      obtain ⟨t0, t1, t2, t3, t4, t5⟩ := own_rec hoV Hs.out
                      refine wp_region_noPanic ?_
                      refine wp_region_pick [0, 1, 2, 3, 4, 5, 6, 7, 8, 9, 10, 11, 12] [13, 14, 15, 16, 17] (fun i => decide (i < 17)) (fun V => Below w.heap.size w V ∧ V.cell? ⟨g, j * 6, none⟩ = some (.int .i64 s.mac) ∧ V.cell? ⟨g, j * 6 + 1, none⟩ = some (.int .i64 s.seq) ∧ V.cell? ⟨g, j * 6 + 2, none⟩ = some (.int .i64 s.min) ∧ V.cell? ⟨g, j * 6 + 3, none⟩ = some (.int .u8 s.kind) ∧ V.cell? ⟨g, j * 6 + 4, none⟩ = some (.int .i64 s.a) ∧ V.cell? ⟨g, j * 6 + 5, none⟩ = some (.int .i64 s.b)) (by kernel_rfl) (by kernel_rfl) (fun _ _ _ _ _ h => h) ⟨hbV.drew, t0, t1, t2, t3, t4, t5⟩ (fun hne => ?_)
                      have n0 := fun q : Meets (fun V => Below w.heap.size w V ∧ V.cell? ⟨g, j * 6, none⟩ = some (.int .i64 s.mac) ∧ V.cell? ⟨g, j * 6 + 1, none⟩ = some (.int .i64 s.seq) ∧ V.cell? ⟨g, j * 6 + 2, none⟩ = some (.int .i64 s.min) ∧ V.cell? ⟨g, j * 6 + 3, none⟩ = some (.int .u8 s.kind) ∧ V.cell? ⟨g, j * 6 + 4, none⟩ = some (.int .i64 s.a) ∧ V.cell? ⟨g, j * 6 + 5, none⟩ = some (.int .i64 s.b)) => q.property.2.1
                      have n1 := fun q : Meets (fun V => Below w.heap.size w V ∧ V.cell? ⟨g, j * 6, none⟩ = some (.int .i64 s.mac) ∧ V.cell? ⟨g, j * 6 + 1, none⟩ = some (.int .i64 s.seq) ∧ V.cell? ⟨g, j * 6 + 2, none⟩ = some (.int .i64 s.min) ∧ V.cell? ⟨g, j * 6 + 3, none⟩ = some (.int .u8 s.kind) ∧ V.cell? ⟨g, j * 6 + 4, none⟩ = some (.int .i64 s.a) ∧ V.cell? ⟨g, j * 6 + 5, none⟩ = some (.int .i64 s.b)) => q.property.2.2.1
                      have n2 := fun q : Meets (fun V => Below w.heap.size w V ∧ V.cell? ⟨g, j * 6, none⟩ = some (.int .i64 s.mac) ∧ V.cell? ⟨g, j * 6 + 1, none⟩ = some (.int .i64 s.seq) ∧ V.cell? ⟨g, j * 6 + 2, none⟩ = some (.int .i64 s.min) ∧ V.cell? ⟨g, j * 6 + 3, none⟩ = some (.int .u8 s.kind) ∧ V.cell? ⟨g, j * 6 + 4, none⟩ = some (.int .i64 s.a) ∧ V.cell? ⟨g, j * 6 + 5, none⟩ = some (.int .i64 s.b)) => q.property.2.2.2.1
                      have n3 := fun q : Meets (fun V => Below w.heap.size w V ∧ V.cell? ⟨g, j * 6, none⟩ = some (.int .i64 s.mac) ∧ V.cell? ⟨g, j * 6 + 1, none⟩ = some (.int .i64 s.seq) ∧ V.cell? ⟨g, j * 6 + 2, none⟩ = some (.int .i64 s.min) ∧ V.cell? ⟨g, j * 6 + 3, none⟩ = some (.int .u8 s.kind) ∧ V.cell? ⟨g, j * 6 + 4, none⟩ = some (.int .i64 s.a) ∧ V.cell? ⟨g, j * 6 + 5, none⟩ = some (.int .i64 s.b)) => q.property.2.2.2.2.1
                      have n4 := fun q : Meets (fun V => Below w.heap.size w V ∧ V.cell? ⟨g, j * 6, none⟩ = some (.int .i64 s.mac) ∧ V.cell? ⟨g, j * 6 + 1, none⟩ = some (.int .i64 s.seq) ∧ V.cell? ⟨g, j * 6 + 2, none⟩ = some (.int .i64 s.min) ∧ V.cell? ⟨g, j * 6 + 3, none⟩ = some (.int .u8 s.kind) ∧ V.cell? ⟨g, j * 6 + 4, none⟩ = some (.int .i64 s.a) ∧ V.cell? ⟨g, j * 6 + 5, none⟩ = some (.int .i64 s.b)) => q.property.2.2.2.2.2.1
                      have n5 := fun q : Meets (fun V => Below w.heap.size w V ∧ V.cell? ⟨g, j * 6, none⟩ = some (.int .i64 s.mac) ∧ V.cell? ⟨g, j * 6 + 1, none⟩ = some (.int .i64 s.seq) ∧ V.cell? ⟨g, j * 6 + 2, none⟩ = some (.int .i64 s.min) ∧ V.cell? ⟨g, j * 6 + 3, none⟩ = some (.int .u8 s.kind) ∧ V.cell? ⟨g, j * 6 + 4, none⟩ = some (.int .i64 s.a) ∧ V.cell? ⟨g, j * 6 + 5, none⟩ = some (.int .i64 s.b)) => q.property.2.2.2.2.2.2
                      simp only [pick, pickN, List.filterMap_cons, List.filterMap_nil, List.getElem?_cons_zero, List.getElem?_cons_succ, Option.map_some]
                      repeat (change wpQuiet _ _ _ _ (_ :: _) _; go_big_quiet_step (fail))
                      refine wpQuiet_nil ?_
                      clear n0 n1 n2 n3 n4 n5 hne t0 t1 t2 t3 t4 t5
                      have B0 := hbV.drew
                      have O0 := own_below hoV ((Below.refl _ _).drew)
                      obtain ⟨X, hX⟩ : ∃ X, X = V.drew := ⟨_, rfl⟩
                      rw [← hX] at B0 O0 ⊢
                      clear hX hbV hoV
                      obtain ⟨t0, t1, t2, t3, t4, t5⟩ := own_rec O0 Hs.out
                      obtain ⟨u0, u1, u2, u3, u4, u5⟩ := own_rec O0 Hgm.out
                      have z0m := O0.frozenAt (m * 6)
                      have z1m := O0.frozenAt (m * 6 + 1)
                      have z2m := O0.frozenAt (m * 6 + 2)
                      have z3m := O0.frozenAt (m * 6 + 3)
                      have z4m := O0.frozenAt (m * 6 + 4)
                      have z5m := O0.frozenAt (m * 6 + 5)
                      have hLm : m < L.length := by rw [own_len HownM.out]; omega
                      have hLj : j < L.length := by omega
                      have hjne : m ≠ j := by have := Hj.out; omega
                      have B1 := below_put B0 m s hgw
                      have O1 := own_put O0 (k := m) s hLm
                      have T1 := own_rec O1 (k := j) (r := s) (by rw [List.getElem?_set_ne hjne]; exact Hs.out)
                      refine wpSeqP_step (fun K hK => ?_)
                      go_simp
                      refine hK.out _ X (fun _ => ⟨B0, t0, t1, t2, t3, t4, t5⟩) ?_
                      clear hK K
                      refine wpSeqP_step (fun K hK => ?_)
                      go_simp
                      refine hK.out _ X (fun _ => ⟨B0, t0, t1, t2, t3, t4, t5⟩) ?_
                      clear hK K
                      refine wpSeqP_step (fun K hK => ?_)
                      go_simp
                      refine hK.out _ _ (fun _ => ⟨B1, T1⟩) ?_
                      clear hK K t0 t1 t2 t3 t4 t5 u0 u1 u2 u3 u4 u5 T1 z0m z1m z2m z3m z4m z5m
                      obtain ⟨X1, hX1⟩ : ∃ X1, X1 = ((((((X.setCell ⟨g, m * 6, none⟩ (.int .i64 s.mac)).setCell ⟨g, m * 6 + 1, none⟩ (.int .i64 s.seq)).setCell ⟨g, m * 6 + 2, none⟩ (.int .i64 s.min)).setCell ⟨g, m * 6 + 3, none⟩ (.int .u8 s.kind)).setCell ⟨g, m * 6 + 4, none⟩ (.int .i64 s.a)).setCell ⟨g, m * 6 + 5, none⟩ (.int .i64 s.b)) := ⟨_, rfl⟩
                      rw [← hX1] at O1 B1 ⊢
                      clear hX1 O0 B0
                      have B2 := below_put B1 j r hgw
                      have O2 := own_put O1 (k := j) r (by rw [List.length_set]; exact hLj)
                      have z0j := O1.frozenAt (j * 6)
                      have z1j := O1.frozenAt (j * 6 + 1)
                      have z2j := O1.frozenAt (j * 6 + 2)
                      have z3j := O1.frozenAt (j * 6 + 3)
                      have z4j := O1.frozenAt (j * 6 + 4)
                      have z5j := O1.frozenAt (j * 6 + 5)
                      have T1 := own_rec O1 (k := j) (r := s) (by rw [List.getElem?_set_ne hjne]; exact Hs.out)
                      refine wpSeqP_step (fun K hK => ?_)
                      go_simp
                      refine hK.out _ X1 (fun _ => ⟨B1, T1⟩) ?_
                      clear hK K
                      refine wpSeqP_step (fun K hK => ?_)
                      go_simp
                      refine hK.out _ _ (fun h => absurd h (by decide)) ?_
                      clear hK K T1 z0j z1j z2j z3j z4j z5j
                      obtain ⟨X2, hX2⟩ : ∃ X2, X2 = ((((((X1.setCell ⟨g, j * 6, none⟩ (.int .i64 r.mac)).setCell ⟨g, j * 6 + 1, none⟩ (.int .i64 r.seq)).setCell ⟨g, j * 6 + 2, none⟩ (.int .i64 r.min)).setCell ⟨g, j * 6 + 3, none⟩ (.int .u8 r.kind)).setCell ⟨g, j * 6 + 4, none⟩ (.int .i64 r.a)).setCell ⟨g, j * 6 + 5, none⟩ (.int .i64 r.b)) := ⟨_, rfl⟩
                      rw [← hX2] at O2 B2 ⊢
                      clear hX2 O1 B1
                      refine wpSeqP_nil ?_
                      refine NoPanic.normal ?_
                      go_wp2
                      go_roundw
                      case rel =>
                        have hI := Hyes.out HK.out
                        rw [← Hj.out] at hI
                        exact ⟨j, _, by omega, hI, by go_num, B2, O2⟩
                      case measure => simp [intOf]; have := Hj.out; omega
                    · have d3 : decide (r.seq < s.seq) = false := by simpa using h3
                      have HK := Lib.hid (show kltB r s = false by simp [kltB, d1, d3, h2])
                      go_wp2
                      go_quiet (fail)
                      go_wp2
                      go_roundw
                      case rel =>
                        have hL : L.Pairwise Rlt := Hno2.out Hpw.out Hnew.out HK.out
                        have hLl := own_len HownM.out
                        refine ⟨i + 1, some ⟨g, 0, none⟩, c2, L, by omega, by go_num, by rw [hLl], below_drewN Hbm.out _, by rw [hLl]; exact own_below HownM.out (below_drewN (Below.refl _ _) _), by omega, hL, fun s hs => ?_⟩
                        rcases Hins.out.mem s hs with h | rfl
                        · obtain ⟨j, hj, e⟩ := Hmem.out s h
                          exact ⟨j, by omega, e⟩
                        · exact ⟨i, by omega, Hr.out⟩
                      case measure => simp [intOf]; omega
                  · have h2b : (r.mac == s.mac) = false := by simpa using h2
                    have HK := Lib.hid (show kltB r s = false by simp [kltB, d1, h2])
                    go_wp2
                    go_quiet (fail)
                    go_wp2
                    go_roundw
                    case rel =>
                      have hL : L.Pairwise Rlt := Hno2.out Hpw.out Hnew.out HK.out
                      have hLl := own_len HownM.out
                      refine ⟨i + 1, some ⟨g, 0, none⟩, c2, L, by omega, by go_num, by rw [hLl], below_drewN Hbm.out _, by rw [hLl]; exact own_below HownM.out (below_drewN (Below.refl _ _) _), by omega, hL, fun s hs => ?_⟩
                      rcases Hins.out.mem s hs with h | rfl
                      · obtain ⟨j, hj, e⟩ := Hmem.out s h
                        exact ⟨j, by omega, e⟩
                      · exact ⟨i, by omega, Hr.out⟩
                    case measure => simp [intOf]; omega
    · obtain rfl : i = l.length := by omega
      rw [HM.out]
      go_wp2
      go_ret
      refine ⟨o, A', c', ⟨Hpw.out, fun s hs => ?_, by rw [HM.out]; exact hoi⟩, by rw [HM.out]; rfl, by rw [HM.out]; exact Hown.out, Hb.out⟩
      obtain ⟨j, _, e⟩ := Hmem.out s hs
      exact List.mem_of_getElem? e
end Go.Proofs.YtckgapeednokjaaGreat
