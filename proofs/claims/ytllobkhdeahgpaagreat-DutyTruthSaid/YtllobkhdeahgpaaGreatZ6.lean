import Derived.Test.YtllobkhdeahgpaaGreatZ5
set_option linter.unusedVariables false
set_option linter.unusedSimpArgs false
namespace Go.Proofs.YtllobkhdeahgpaaGreat
open Go Go.Proofs Go.RowKit

/-! ### Tables of times; Drive, Breaks, Spread -/
def tabT (B : List (List Int)) (b i : Nat) : Int := (B[b]?.getD [])[i]?.getD 0
theorem tab_lows (bl : List (List Rel)) : tabT (lowsL bl) = loT bl := by
  funext b i
  unfold tabT lowsL loT relAt
  rw [List.getElem?_map]
  cases bl[b]? with
  | none => simp [Rel.none]
  | some l =>
    simp only [Option.map_some, Option.getD_some, List.getElem?_map]
    cases l[i]? <;> simp [Rel.none]
theorem tab_highs (bl : List (List Rel)) : tabT (highsL bl) = hiT bl := by
  funext b i
  unfold tabT highsL hiT relAt
  rw [List.getElem?_map]
  cases bl[b]? with
  | none => simp [Rel.none]
  | some l =>
    simp only [Option.map_some, Option.getD_some, List.getElem?_map]
    cases l[i]? <;> simp [Rel.none]
def InTab (B : List (List Int)) (b i : Nat) : Prop := b < B.length ∧ i < (B[b]?.getD []).length
def SmallT (B : List (List Int)) : Prop := ∀ b i, 0 ≤ tabT B b i ∧ tabT B b i ≤ 3000
theorem tab_cells {w : World} {A : Option Addr} {n c : Nat} {B : List (List Int)} (h : RowsAt w (.slice A n c) B) {b i : Nat} (hi : InTab B b i) :
    ∃ bb oo b2 o2 m c', A = some ⟨bb, oo, none⟩ ∧ w.cell? ⟨bb, oo + b, none⟩ = some (.slice (some ⟨b2, o2, none⟩) m c') ∧ i < m ∧ w.cell? ⟨b2, o2 + i, none⟩ = some (.int .i64 (tabT B b i)) := by
  obtain ⟨bb, oo, l, u, e, hl, hc, hn, _⟩ := h.at_ hi.1
  obtain ⟨A2, c2, rfl, _, _⟩ := hn.form
  have h2 := hi.2
  rw [hl, Option.getD_some] at h2
  obtain ⟨b2, o2, x, rfl, hx, hcx, _⟩ := hn.at_ h2
  refine ⟨bb, oo, b2, o2, _, c2, e, hc, h2, ?_⟩
  have : tabT B b i = x := by unfold tabT; rw [hl, Option.getD_some, hx]; rfl
  rw [this]
  exact hcx
theorem driveP_take {tb te : Nat → Nat → Int} {ps : List Pc} {k : Nat} {p : Pc} (h : ps[k]? = some p) : driveP tb te (ps.take (k + 1)) = driveP tb te (ps.take k) + (te p.b p.to - tb p.b p.fr) := by
  unfold driveP
  rw [List.map_take, List.map_take]
  refine sumD_take ?_
  rw [List.getElem?_map, h]
  rfl
theorem driveP_bd {tb te : Nat → Nat → Int} (h1 : ∀ b i, 0 ≤ tb b i ∧ tb b i ≤ 3000) (h2 : ∀ b i, 0 ≤ te b i ∧ te b i ≤ 3000) : ∀ ps : List Pc, -3000 * (ps.length : Int) ≤ driveP tb te ps ∧ driveP tb te ps ≤ 3000 * (ps.length : Int)
  | [] => by simp [driveP, sumD]
  | p :: t => by
    have ih := driveP_bd h1 h2 t
    have a := h1 p.b p.fr
    have b := h2 p.b p.to
    unfold driveP at *
    simp only [List.map_cons, sumD, List.length_cons, durP]
    push_cast
    omega
set_option maxRecDepth 100000 in
set_option maxHeartbeats 1600000 in
theorem Drive_any (v vb ve : Value) (ps : List Pc) (B E : List (List Int)) (w : World) (hv : PcsAt w v ps) (hb : RowsAt w vb B) (he : RowsAt w ve E) (hB : SmallT B) (hE : SmallT E) (hps : ∀ p ∈ ps, InTab B p.b p.fr ∧ InTab E p.b p.to) (hl : ps.length ≤ 100) :
    Calls Tryz.prog 40 #[v, vb, ve] w (Gives w (.int .i64 (driveP (tabT B) (tabT E) ps))) := by
  obtain ⟨A, c, rfl, hc, hm⟩ := hv.form
  obtain ⟨A1, c1, rfl, hc1, hm1⟩ := hb.form
  obtain ⟨A2, c2, rfl, hc2, hm2⟩ := he.form
  have Hv := Lib.hid hv
  have Hb := Lib.hid hb
  have He := Lib.hid he
  have HBd := Lib.hid (driveP_bd hB hE)
  have HB := Lib.hid hB
  have HE := Lib.hid hE
  have Hps := Lib.hid hps
  clear hv hb he hB hE hps
  go_enter Tryz.func40, Tryz.ntmps40
  go_wp2
  go_loopw [7, 8] (fun s i wr => ∃ k : Nat, k ≤ ps.length ∧ i = .int .i64 k ∧ s = .int .i64 (driveP (tabT B) (tabT E) (ps.take k)) ∧ Below w.heap.size w wr) (fun s i wr => ps.length - (intOf i).toNat)
  case atStart => exact ⟨0, by omega, rfl, rfl, Below.refl _ _⟩
  case round =>
    obtain ⟨k, hk, rfl, rfl, hbr⟩ := hrel
    obtain ⟨wo, rfl⟩ : ∃ wo : World, wo = wr := ⟨_, rfl⟩
    by_cases hlt : k < ps.length
    · obtain ⟨b0, o0, p, rfl, hp, p0, p1, p2, p3, _⟩ := (Hv.out.below hbr).at_ hlt
      obtain ⟨t1, t2⟩ := Hps.out p (List.mem_of_getElem? hp)
      obtain ⟨b1, o1, b2, o2, m, c', rfl, e0, e1, e2⟩ := tab_cells (Hb.out.below hbr) t1
      obtain ⟨b3, o3, b4, o4, m', c'', rfl, g0, g1, g2⟩ := tab_cells (He.out.below hbr) t2
      have hst := driveP_take (tb := tabT B) (te := tabT E) hp
      have bd1 := HB.out p.b p.fr
      have bd2 := HE.out p.b p.to
      have bd3 := HBd.out (ps.take k)
      rw [List.length_take] at bd3
      have Hst := Lib.hid hst
      have i1 : (p.b : Int) < (B.length : Int) := by have := t1.1; omega
      have i2 : (p.b : Int) < (E.length : Int) := by have := t2.1; omega
      have i3 : (p.fr : Int) < (m : Int) := by omega
      have i4 : (p.to : Int) < (m' : Int) := by omega
      have i5 : (k : Int) < (ps.length : Int) := by omega
      generalize hX : tabT B p.b p.fr = X at *
      generalize hY : tabT E p.b p.to = Y at *
      generalize hD : driveP (tabT B) (tabT E) (ps.take k) = D at *
      have q1 : IntKind.i64.wrap (Y - X) = Y - X := IntWalk.i64_in _ (by omega)
      have q2 : IntKind.i64.wrap (D + (Y - X)) = D + (Y - X) := IntWalk.i64_in _ (by omega)
      have f0 := Later.cell p0
      have f1 := Later.cell p1
      have f2 := Later.cell p2
      have f3 := Later.cell e0
      have f4 := Later.cell e2
      have f5 := Later.cell g0
      have f6 := Later.cell g2
      clear hst hp hX hY hD t1 t2
      go_wp2_with fail
      refine wp_region_later (by kernel_rfl) (by kernel_rfl) ?_
      repeat (go_big_quiet_step (fail))
      refine wpQuiet_nil ?_
      intro w2 hx2
      have hb2 := Later.out hx2
      clear hx2 f0 f1 f2 f3 f4 f5 f6
      go_wp2
      go_roundw
      case rel => exact ⟨k + 1, by omega, by go_num, by rw [Hst.out], hbr.trans (hb2.mono hbr.size)⟩
      case measure => simp [intOf]; omega
    · obtain rfl : k = ps.length := by omega
      have i5 : ¬ (ps.length : Int) < (ps.length : Int) := by omega
      rw [List.take_length]
      go_wp2
      go_ret
      exact ⟨rfl, hbr⟩
set_option maxRecDepth 100000 in
set_option maxHeartbeats 1600000 in
theorem Spread_any (d : DDay) (u z v vb ve : Value) (ps : List Pc) (B E : List (List Int)) (w : World) (hv : PcsAt w v ps) (hb : RowsAt w vb B) (he : RowsAt w ve E) (hB : SmallT B) (hE : SmallT E) (hps : ∀ p ∈ ps, InTab B p.b p.fr ∧ InTab E p.b p.to) (hl : ps.length ≤ 100) (h0 : ps ≠ []) (hd : DayOk d) :
    Calls Tryz.prog 41 #[.agg #[.int .i64 d.law.piece, .int .i64 d.law.drive, .int .i64 d.law.spread, .int .i64 d.law.brk, .int .i64 d.law.on, .int .i64 d.law.off, .int .i64 d.law.least, .int .i64 d.law.pieces, u, z], v, vb, ve] w (Gives w (.int .i64 (spreadP d (tabT B) (tabT E) ps))) := by
  obtain ⟨A, c, rfl, hc, hm⟩ := hv.form
  obtain ⟨A1, c1, rfl, hc1, hm1⟩ := hb.form
  obtain ⟨A2, c2, rfl, hc2, hm2⟩ := he.form
  have hw0 : Below w.heap.size w (w.alloc (.cells #[.int .i64 d.law.piece, .int .i64 d.law.drive, .int .i64 d.law.spread, .int .i64 d.law.brk, .int .i64 d.law.on, .int .i64 d.law.off, .int .i64 d.law.least, .int .i64 d.law.pieces, u, z] 27)) := (Below.refl _ _).alloc (Nat.le_refl _) _
  have G0 := Lib.hid (heap_alloc_new w (.cells #[.int .i64 d.law.piece, .int .i64 d.law.drive, .int .i64 d.law.spread, .int .i64 d.law.brk, .int .i64 d.law.on, .int .i64 d.law.off, .int .i64 d.law.least, .int .i64 d.law.pieces, u, z] 27 (0, 0)))
  have hpos := List.length_pos_iff.2 h0
  obtain ⟨b0, o0, p, rfl, hp, p0, p1, p2, p3, _⟩ := (hv.below hw0).at_ hpos
  obtain ⟨bq, oq, q, eq, hq, r0, r1, r2, r3, _⟩ := (hv.below hw0).at_ (k := ps.length - 1) (by omega)
  cases eq
  obtain ⟨t1, _⟩ := hps p (List.mem_of_getElem? hp)
  obtain ⟨_, t2⟩ := hps q (List.mem_of_getElem? hq)
  obtain ⟨b1, o1, b2, o2, m, c', rfl, e0, e1, e2⟩ := tab_cells (hb.below hw0) t1
  obtain ⟨b3, o3, b4, o4, m', c'', rfl, g0, g1, g2⟩ := tab_cells (he.below hw0) t2
  have hsp : spreadP d (tabT B) (tabT E) ps = tabT E q.b q.to + d.law.off - tabT B p.b p.fr + d.law.on := by
    unfold spreadP
    rw [List.head?_eq_getElem?, hp, List.getLast?_eq_getElem?, hq]
  rw [hsp]
  have bd1 := hB p.b p.fr
  have bd2 := hE q.b q.to
  have bd3 := hd.law.on
  have bd4 := hd.law.off
  have i1 : (p.b : Int) < (B.length : Int) := by have := t1.1; omega
  have i2 : (q.b : Int) < (E.length : Int) := by have := t2.1; omega
  have i3 : (p.fr : Int) < (m : Int) := by omega
  have i4 : (q.to : Int) < (m' : Int) := by omega
  have i6 : (0 : Int) < (ps.length : Int) := by omega
  obtain ⟨j, hj⟩ : ∃ j, ps.length - 1 = j := ⟨_, rfl⟩
  have i5 : (j : Int) < (ps.length : Int) := by omega
  have q0 : IntKind.i64.wrap ((ps.length : Int) - 1) = (j : Int) := by rw [IntWalk.i64_in _ (by omega)]; omega
  have q00 : (ps.length : Int) - 1 = (j : Int) := by omega
  rw [hj] at r0 r1 r2 r3
  rw [Nat.zero_mul, Nat.add_zero] at p0 p1 p2 p3
  generalize tabT B p.b p.fr = X at *
  generalize tabT E q.b q.to = Y at *
  have k1 : IntKind.i64.wrap (Y + d.law.off) = Y + d.law.off := IntWalk.i64_in _ (by omega)
  have k2 : IntKind.i64.wrap (Y + d.law.off - X) = Y + d.law.off - X := IntWalk.i64_in _ (by omega)
  have k3 : IntKind.i64.wrap (Y + d.law.off - X + d.law.on) = Y + d.law.off - X + d.law.on := IntWalk.i64_in _ (by omega)
  clear hv hb he hB hE hps hp hq hsp t1 t2 hpos h0 hj
  go_enter Tryz.func41, Tryz.ntmps41
  go_wp2_with fail
  refine wp_name (fun W => Below w.heap.size w W ∧ W = w.alloc (.cells #[.int .i64 d.law.piece, .int .i64 d.law.drive, .int .i64 d.law.spread, .int .i64 d.law.brk, .int .i64 d.law.on, .int .i64 d.law.off, .int .i64 d.law.least, .int .i64 d.law.pieces, u, z] 27)) ⟨hw0, rfl⟩ (fun W hW => ?_)
  obtain ⟨hbW, hWe⟩ := hW
  rw [← hWe] at p0 p1 r0 r2 e0 e2 g0 g2
  have hc4 := box_cells (hWe ▸ G0.out : W.heap[w.heap.size]? = some (.cells #[.int .i64 d.law.piece, .int .i64 d.law.drive, .int .i64 d.law.spread, .int .i64 d.law.brk, .int .i64 d.law.on, .int .i64 d.law.off, .int .i64 d.law.least, .int .i64 d.law.pieces, u, z] 27 (0, 0))) 4
  have hc5 := box_cells (hWe ▸ G0.out : W.heap[w.heap.size]? = some (.cells #[.int .i64 d.law.piece, .int .i64 d.law.drive, .int .i64 d.law.spread, .int .i64 d.law.brk, .int .i64 d.law.on, .int .i64 d.law.off, .int .i64 d.law.least, .int .i64 d.law.pieces, u, z] 27 (0, 0))) 5
  have f0 := Later.cell p0
  have f1 := Later.cell p1
  have f2 := Later.cell r0
  have f3 := Later.cell r2
  have f4 := Later.cell e0
  have f5 := Later.cell e2
  have f6 := Later.cell g0
  have f7 := Later.cell g2
  have f8 := Later.cell (w := W) hc4
  have f9 := Later.cell (w := W) hc5
  clear hWe hc4 hc5
  refine wp_region_later (by kernel_rfl) (by kernel_rfl) ?_
  repeat (go_big_quiet_step (fail))
  refine wpQuiet_nil ?_
  intro w2 hx2
  have hb2 := Later.out hx2
  clear hx2 f0 f1 f2 f3 f4 f5 f6 f7 f8 f9
  go_wp2
  go_ret
  exact ⟨rfl, hbW.trans (hb2.mono hbW.size)⟩
end Go.Proofs.YtllobkhdeahgpaaGreat
