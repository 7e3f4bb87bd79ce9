import Derived.Test.YtckgapeednokjaaGreatZ9
set_option linter.unusedVariables false
set_option linter.unusedSimpArgs false
namespace Go.Proofs.YtckgapeednokjaaGreat
open Go Go.Proofs Go.RowKit

/-! ### What is a truth -/
def cellT (l : List Rel) (row : List Int) (i : Nat) : Bool := inB (row[i]?.getD 0) (l[i]?.getD Rel.none).lo (l[i]?.getD Rel.none).hi && (i == 0 || !decide (row[i]?.getD 0 < row[i - 1]?.getD 0))
def rowT (l : List Rel) (row : List Int) : Bool := decide (row.length = l.length) && (List.range row.length).all (cellT l row)
def truthB (bl : List (List Rel)) (tt : List (List Int)) : Bool := decide (tt.length = bl.length) && (List.range tt.length).all fun b => rowT (bl[b]?.getD []) (tt[b]?.getD [])
theorem all_range {n : Nat} {p : Nat → Bool} : (List.range n).all p = true ↔ ∀ i, i < n → p i = true := by simp [List.all_eq_true]
theorem not_range {n i : Nat} {p : Nat → Bool} (hi : i < n) (h : p i = false) : (List.range n).all p = false := by
  rw [Bool.eq_false_iff]
  intro ha
  rw [all_range.1 ha i hi] at h
  cases h
theorem truth_len {bl : List (List Rel)} {tt : List (List Int)} (h : tt.length ≠ bl.length) : truthB bl tt = false := by
  unfold truthB
  rw [decide_eq_false h]
  rfl
theorem truth_row {bl : List (List Rel)} {tt : List (List Int)} {b : Nat} {l : List Rel} {row : List Int} (hl : bl[b]? = some l) (hr : tt[b]? = some row) (h : rowT l row = false) : truthB bl tt = false := by
  unfold truthB
  rw [not_range (i := b) (List.getElem?_eq_some_iff.1 hr).1 (by rw [hl, hr]; exact h), Bool.and_false]
theorem row_len {l : List Rel} {row : List Int} (h : row.length ≠ l.length) : rowT l row = false := by
  unfold rowT
  rw [decide_eq_false h]
  rfl
theorem row_cell {l : List Rel} {row : List Int} {i : Nat} (hi : i < row.length) (h : cellT l row i = false) : rowT l row = false := by
  unfold rowT
  rw [not_range hi h, Bool.and_false]
theorem row_all {l : List Rel} {row : List Int} (h : row.length = l.length) (hc : ∀ i, i < row.length → cellT l row i = true) : rowT l row = true := by
  unfold rowT
  rw [decide_eq_true h, all_range.2 hc]
  rfl
theorem truth_all {bl : List (List Rel)} {tt : List (List Int)} (h : tt.length = bl.length) (hc : ∀ b, b < tt.length → rowT (bl[b]?.getD []) (tt[b]?.getD []) = true) : truthB bl tt = true := by
  unfold truthB
  rw [decide_eq_true h, all_range.2 hc]
  rfl
theorem truth_spec {bl : List (List Rel)} {tt : List (List Int)} (h : truthB bl tt = true) : tt.length = bl.length ∧ ∀ b, b < bl.length → (tt[b]?.getD []).length = (bl[b]?.getD []).length ∧ ∀ i, i < (bl[b]?.getD []).length → cellT (bl[b]?.getD []) (tt[b]?.getD []) i = true := by
  unfold truthB at h
  simp only [Bool.and_eq_true, decide_eq_true_eq, all_range] at h
  obtain ⟨h1, h2⟩ := h
  refine ⟨h1, fun b hb => ?_⟩
  have h3 := h2 b (by omega)
  unfold rowT at h3
  simp only [Bool.and_eq_true, decide_eq_true_eq, all_range] at h3
  exact ⟨h3.1, fun i hi => h3.2 i (by omega)⟩
theorem cellT_first {l : List Rel} {row : List Int} {x : Int} {r : Rel} (hx : row[0]? = some x) (hr : l[0]? = some r) : cellT l row 0 = inB x r.lo r.hi := by
  unfold cellT
  rw [hx, hr]
  simp
theorem cellT_next {l : List Rel} {row : List Int} {i : Nat} {x p : Int} {r : Rel} (h0 : 0 < i) (hx : row[i]? = some x) (hp : row[i - 1]? = some p) (hr : l[i]? = some r) : cellT l row i = (inB x r.lo r.hi && !decide (x < p)) := by
  unfold cellT
  rw [hx, hr, hp]
  have : (i == 0) = false := by simpa using (by omega : i ≠ 0)
  rw [this]
  simp
set_option maxRecDepth 100000 in
set_option maxHeartbeats 3200000 in
theorem truth_any (d : DDay) (u z v : Value) (tt : List (List Int)) (w : World) (hda : DayAt w u z d) (hm : Mild d) (hv : RowsAt w v tt) :
    Calls Tryz.prog 62 #[.agg #[.int .i64 d.law.piece, .int .i64 d.law.drive, .int .i64 d.law.spread, .int .i64 d.law.brk, .int .i64 d.law.on, .int .i64 d.law.off, .int .i64 d.law.least, .int .i64 d.law.pieces, u, z], v] w (Gives w (.bool (truthB d.blocks tt))) := by
  obtain ⟨A1, c1, rfl, hd1, hd2⟩ := hda.blocks.form
  obtain ⟨A2, c2, rfl, _, _⟩ := hda.walk.form
  obtain ⟨A3, c3, rfl, hc3, hm3⟩ := hv.form
  have hw0 : Below w.heap.size w (w.alloc (.cells #[.int .i64 d.law.piece, .int .i64 d.law.drive, .int .i64 d.law.spread, .int .i64 d.law.brk, .int .i64 d.law.on, .int .i64 d.law.off, .int .i64 d.law.least, .int .i64 d.law.pieces, .slice A1 d.blocks.length c1, .slice A2 d.walk.length c2] 73)) := (Below.refl _ _).alloc (Nat.le_refl _) _
  have G0 := Lib.hid (heap_alloc_new w (.cells #[.int .i64 d.law.piece, .int .i64 d.law.drive, .int .i64 d.law.spread, .int .i64 d.law.brk, .int .i64 d.law.on, .int .i64 d.law.off, .int .i64 d.law.least, .int .i64 d.law.pieces, .slice A1 d.blocks.length c1, .slice A2 d.walk.length c2] 73 (0, 0)))
  have Hda := Lib.hid hda
  have Hv := Lib.hid hv
  have hmb := hm.blocks
  have hma := hm.block
  have Hmb := Lib.hid hma
  clear hda hv hma
  by_cases hlen : tt.length = d.blocks.length
  · have HL := Lib.hid hlen
    have hln1 : (tt.length : Int) ≤ (d.blocks.length : Int) := by omega
    have hln2 : (d.blocks.length : Int) ≤ (tt.length : Int) := by omega
    have hln3 : ((tt.length : Int) != (d.blocks.length : Int)) = false := by rw [hlen]; simp
    clear hlen
    go_enter Tryz.func62, Tryz.ntmps62
    have gc := box_cells G0.out
    have gf := box_frozen G0.out
    go_wp2_with fail
    go_loopw [18] (fun b wr => ∃ k : Nat, k ≤ tt.length ∧ b = .int .i64 k ∧ Below w.heap.size w wr ∧ wr.heap[w.heap.size]? = some (.cells #[.int .i64 d.law.piece, .int .i64 d.law.drive, .int .i64 d.law.spread, .int .i64 d.law.brk, .int .i64 d.law.on, .int .i64 d.law.off, .int .i64 d.law.least, .int .i64 d.law.pieces, .slice A1 d.blocks.length c1, .slice A2 d.walk.length c2] 73 (0, 0)) ∧ Hid (∀ j, j < k → rowT (d.blocks[j]?.getD []) (tt[j]?.getD []) = true)) (fun b wr => tt.length - (intOf b).toNat)
    case atStart => exact ⟨0, by omega, rfl, hw0, G0.out, fun j hj => absurd hj (by omega)⟩
    case round =>
      obtain ⟨k, hk, rfl, hwo, hbx, Hdone⟩ := hrel
      obtain ⟨wo, rfl⟩ : ∃ wo : World, wo = wr := ⟨_, rfl⟩
      have Go := Lib.hid hbx
      replace gc := box_cells Go.out
      replace gf := box_frozen Go.out
      clear hbx
      by_cases hlt : k < tt.length
      · have hkI : (k : Int) < (tt.length : Int) := by omega
        have hkN : (k : Int) < (d.blocks.length : Int) := by have := HL.out; omega
        obtain ⟨bt, ot, row, yt, rfl, hrow, ct, hnr, _⟩ := (Hv.out.below hwo).at_ hlt
        obtain ⟨bb, ob, l, yb, rfl, hl, cb, hrl, _⟩ := (Hda.out.blocks.below hwo).at_ (k := k) (by have := HL.out; omega)
        obtain ⟨A5, c5, rfl, hq1, hq2⟩ := hnr.form
        obtain ⟨A6, c6, rfl, hq3, hq4⟩ := hrl.form
        have hll := Hmb.out k l hl
        have Hrow := Lib.hid hrow
        have Hl := Lib.hid hl
        have Hnr := Lib.hid hnr
        have Hrl := Lib.hid hrl
        have Hct := Lib.hid ct
        have Hcb := Lib.hid cb
        clear hrow hl hnr hrl
        by_cases hrl2 : row.length = l.length
        · have HR := Lib.hid hrl2
          have hrn : ((row.length : Int) != (l.length : Int)) = false := by rw [hrl2]; simp
          have hr1 : (row.length : Int) ≤ (l.length : Int) := by omega
          have hr2 : (l.length : Int) ≤ (row.length : Int) := by omega
          clear hrl2
          go_wp2_with fail
          have hbo : Below wo.heap.size wo wo := Below.refl _ _
          have hwp := hwo
          have Gp := Go
          go_wp2_with fail
          go_loopw [34] (fun i wr => ∃ m : Nat, m ≤ row.length ∧ i = .int .i64 m ∧ Below wo.heap.size wo wr ∧ Hid (∀ j, j < m → cellT l row j = true)) (fun i wr => row.length - (intOf i).toNat)
          case atStart => exact ⟨0, by omega, rfl, hbo, fun j hj => absurd hj (by omega)⟩
          case round =>
            obtain ⟨m, hmk, rfl, hbs, Hcs⟩ := hrel
            obtain ⟨ws, rfl⟩ : ∃ ws : World, ws = wr := ⟨_, rfl⟩
            have hws := hwo.trans (hbs.mono hwo.size)
            have Gs := Lib.hid (box_step hbs Go.out)
            replace gc := box_cells Gs.out
            replace gf := box_frozen Gs.out
            have ct2 := cell_below hbs Hct.out
            have cb2 := cell_below hbs Hcb.out
            by_cases hlm : m < row.length
            · have hmI : (m : Int) < (row.length : Int) := by omega
              have hmN : (m : Int) < (l.length : Int) := by omega
              obtain ⟨b7, o7, x, rfl, hx, cx, _⟩ := (Hnr.out.below hbs).at_ hlm
              obtain ⟨b8, o8, r, rfl, hr, r0, r1, r2, _⟩ := (Hrl.out.below hbs).at_ (k := m) (by have := HR.out; omega)
              have Hx := Lib.hid hx
              have Hr := Lib.hid hr
              have Hnrs := Lib.hid (Hnr.out.below hbs)
              have HinD := Lib.hid (show InDay d k m from ⟨by have := HL.out; omega, by rw [Hl.out, Option.getD_some]; have := HR.out; omega⟩)
              have Hlo := Lib.hid (show loT d.blocks k m = r.lo by unfold loT relAt; rw [Hl.out, Option.getD_some, Hr.out, Option.getD_some])
              clear hx hr
              rcases Nat.eq_zero_or_pos m with h0 | h0
              · subst h0
                have Hc := Lib.hid (cellT_first Hx.out Hr.out)
                simp only [Nat.zero_mul, Nat.add_zero] at r0 r1 r2 cx
                cases hin : inB x r.lo r.hi with
                | false =>
                  have Hin := Lib.hid hin
                  have Hfin := Lib.hid (truth_row (tt := tt) Hl.out Hrow.out (row_cell (i := 0) (by omega) (Hc.out.trans (by rw [Hin.out]))))
                  clear hin
                  go_wp2_with fail
                  refine (Same.to Hin.out (within_same x r.lo r.hi _)).mono ?_
                  rintro e wz ⟨rfl, rfl⟩
                  go_wp2_with fail
                  go_ret
                  exact gives_bool Hfin.out.symm (hws.alloc hws.size _)
                | true =>
                  have Hin := Lib.hid hin
                  have Hnx := Lib.hid (show ∀ j, j < 0 + 1 → cellT l row j = true from fun j hj => by
                    by_cases e : j = 0
                    · rw [e]; exact Hc.out.trans (by rw [Hin.out])
                    · exact Hcs.out j (by omega))
                  clear hin
                  go_wp2_with fail
                  refine (Same.to Hin.out (within_same x r.lo r.hi _)).mono ?_
                  rintro e wz ⟨rfl, rfl⟩
                  go_wp2_with fail
                  go_roundw
                  case rel => exact ⟨0 + 1, by omega, by go_num, (hbs.alloc hbs.size _), Hnx⟩
                  case measure => simp [intOf]; omega
              · obtain ⟨b9, o9, pv, e9, hp, cp, _⟩ := Hnrs.out.at_ (k := m - 1) (by omega)
                cases e9
                have Hc := Lib.hid (cellT_next h0 Hx.out hp Hr.out)
                have hmw : IntKind.i64.wrap ((m : Int) - 1) = ((m - 1 : Nat) : Int) := by rw [IntWalk.i64_in _ (by omega)]; omega
                have hmp : (0 : Int) < (m : Int) := by omega
                have hm1 : (((m - 1 : Nat) : Int)) < (row.length : Int) := by omega
                clear hp
                cases hin : inB x r.lo r.hi with
                | false =>
                  have Hin := Lib.hid hin
                  have Hfin := Lib.hid (truth_row (tt := tt) Hl.out Hrow.out (row_cell (i := m) (by omega) (Hc.out.trans (by rw [Hin.out]; rfl))))
                  clear hin
                  go_wp2_with fail
                  refine (Same.to Hin.out (within_same x r.lo r.hi _)).mono ?_
                  rintro e wz ⟨rfl, rfl⟩
                  go_wp2_with fail
                  go_ret
                  exact gives_bool Hfin.out.symm (hws.alloc hws.size _)
                | true =>
                  have Hin := Lib.hid hin
                  clear hin
                  by_cases hxp : x < pv
                  · have Hd := Lib.hid (decide_eq_true hxp)
                    have Hfin := Lib.hid (truth_row (tt := tt) Hl.out Hrow.out (row_cell (i := m) (by omega) (Hc.out.trans (by rw [Hin.out, Hd.out]; rfl))))
                    go_wp2_with fail
                    refine (Same.to Hin.out (within_same x r.lo r.hi _)).mono ?_
                    rintro e wz ⟨rfl, rfl⟩
                    go_wp2_with fail
                    go_ret
                    exact gives_bool Hfin.out.symm (hws.alloc hws.size _)
                  · have Hd := Lib.hid (decide_eq_false hxp)
                    have Hnx := Lib.hid (show ∀ j, j < m + 1 → cellT l row j = true from fun j hj => by
                      by_cases e : j = m
                      · rw [e]; exact Hc.out.trans (by rw [Hin.out, Hd.out]; rfl)
                      · exact Hcs.out j (by omega))
                    have hdx : decide (x < pv) = false := Hd.out
                    go_wp2_with fail
                    refine (Same.to Hin.out (within_same x r.lo r.hi _)).mono ?_
                    rintro e wz ⟨rfl, rfl⟩
                    go_wp2_with fail
                    go_roundw
                    case rel => exact ⟨m + 1, by omega, by go_num, (hbs.alloc hbs.size _), Hnx⟩
                    case measure => simp [intOf]; omega
            · obtain rfl : m = row.length := by omega
              have hmI : ¬ (row.length : Int) < (row.length : Int) := by omega
              have Hnx := Lib.hid (show ∀ j, j < k + 1 → rowT (d.blocks[j]?.getD []) (tt[j]?.getD []) = true from fun j hj => by
                by_cases e : j = k
                · rw [e, Hl.out, Hrow.out]; exact row_all HR.out Hcs.out
                · exact Hdone.out j (by omega))
              go_wp2_with fail
              go_roundw
              case rel => exact ⟨k + 1, by omega, by go_num, hws, Gs.out, Hnx⟩
              case measure => simp [intOf]; omega
        · have Hfin := Lib.hid (truth_row (tt := tt) Hl.out Hrow.out (row_len hrl2))
          have hrn : ((row.length : Int) != (l.length : Int)) = true := by simp only [bne_iff_ne, ne_eq]; omega
          clear hrl2
          go_wp2_with fail
          go_ret
          exact gives_bool Hfin.out.symm hwo
      · obtain rfl : k = tt.length := by omega
        have hkI : ¬ (tt.length : Int) < (tt.length : Int) := by omega
        have Hfin := Lib.hid (truth_all HL.out Hdone.out)
        go_wp2_with fail
        go_ret
        exact gives_bool Hfin.out.symm hwo
  · have Hfin := Lib.hid (truth_len hlen)
    have hln3 : ((tt.length : Int) != (d.blocks.length : Int)) = true := by simp only [bne_iff_ne, ne_eq]; omega
    clear hlen
    go_enter Tryz.func62, Tryz.ntmps62
    have gc := box_cells G0.out
    have gf := box_frozen G0.out
    go_wp2_with fail
    go_ret
    exact gives_bool Hfin.out.symm hw0
end Go.Proofs.YtckgapeednokjaaGreat
