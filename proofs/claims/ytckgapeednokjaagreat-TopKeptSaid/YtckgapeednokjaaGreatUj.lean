import Derived.Test.YtckgapeednokjaaGreatUi
set_option linter.unusedVariables false
set_option linter.unusedSimpArgs false
namespace Go.Proofs.YtckgapeednokjaaGreat
open Go Go.Proofs Go.RowKit

/-! ### layoverlaw11.Closed -/
theorem recCells_ab : ∀ (l : List Rc) (k : Nat) (r : Rc) (a b : Int), l[k]? = some r → ((recCells l).set (k * 6 + 4) (.int .i64 a)).set (k * 6 + 5) (.int .i64 b) = recCells (l.set k { r with a := a, b := b })
  | [], k, r, a, b, h => by simp at h
  | x :: t, 0, r, a, b, h => by
    simp only [List.getElem?_cons_zero, Option.some.injEq] at h
    subst h
    rfl
  | x :: t, k + 1, r, a, b, h => by
    have ih := recCells_ab t k r a b (by simpa using h)
    rw [List.set_cons_succ, show (k + 1) * 6 = k * 6 + 6 by omega]
    show _ = recC x ++ recCells (t.set k _)
    rw [← ih]
    rfl
def GivesClosed (l : List Rc) (w : World) (e : Ending) (w' : World) : Prop := ∃ (F : List Rc) (A : Option Addr) (c : Nat), LogOf l F ∧ e = .returned (.slice A F.length c) ∧ w'.ownsRow w.heap.size 31 6 (.slice A F.length c) F.length (recCells (closeL none 0 0 F)) ∧ Below w.heap.size w w'
set_option maxRecDepth 100000 in
set_option maxHeartbeats 6400000 in
theorem Closed_any (u : Value) (l : List Rc) (w : World) (hl : RecsAt w u l) (h60 : l.length ≤ 60) (hnc : NoCon l) (hoks : ∀ r ∈ l, RcOk r) : Calls Tryz.prog 8 #[u] w (GivesClosed l w) := by
  obtain ⟨A, c, rfl, _, _⟩ := hl.form
  have Hoks := Lib.hid hoks
  have Hcon := Lib.hid (Log_any _ l w hl (by omega) hnc)
  clear hl hoks hnc
  go_enter Tryz.func8, Tryz.ntmps8
  go_wp2_with fail
  refine Hcon.out.mono ?_
  rintro e w1 ⟨F, A1, c1, hlog, rfl, hown1, hb1⟩
  have Hlog := Lib.hid hlog
  have hFlen := hlog.len
  obtain ⟨N, hN⟩ : ∃ N, F.length = N := ⟨_, rfl⟩
  rw [hN] at hown1 hFlen
  rw [hN]
  have HN := Lib.hid hN
  clear hN Hcon hlog
  have Hown1 := Lib.hid hown1
  have Hb1 := Lib.hid hb1
  clear hown1 hb1
  go_wp2
  go_loopw [4, 5, 6] (fun sa co ix wr => ∃ (i : Nat) (D : List Rc) (pm : Option Int) (Av Bv : Int), i ≤ N ∧ ix = .int .i64 (i : Int) ∧ sa = .int .i64 Av ∧ co = .int .i64 Bv ∧ D.length = i ∧ D ++ closeL pm Av Bv (F.drop i) = closeL none 0 0 F ∧ pm = D.getLast?.map Rc.mac ∧ (pm = none → Av = 0 ∧ Bv = 0) ∧ (0 ≤ Av ∧ Av ≤ i) ∧ (0 ≤ Bv ∧ Bv ≤ 10000 * i) ∧ Below w.heap.size w wr ∧ wr.ownsRow w.heap.size 31 6 (.slice A1 N c1) N (recCells (D ++ F.drop i))) (fun sa co ix wr => N - (intOf ix).toNat)
  case atStart => exact ⟨0, [], none, 0, 0, by omega, rfl, rfl, rfl, rfl, rfl, rfl, fun _ => ⟨rfl, rfl⟩, by omega, by omega, Hb1.out, Hown1.out⟩
  case round =>
    obtain ⟨i, D, pm, Av, Bv, hi, rfl, rfl, rfl, hDl, hDe, hpm, hz, hA, hB, hbm, hown⟩ := hrel
    obtain ⟨wq, rfl⟩ : ∃ wq : World, wq = wr := ⟨_, rfl⟩
    have HD := Lib.hid (And.intro hDl hDe)
    have Hpm := Lib.hid hpm
    have Hz := Lib.hid hz
    have Hbm := Lib.hid hbm
    have Hown := Lib.hid hown
    clear hDl hDe hpm hz hbm hown
    by_cases hiN : i < N
    · obtain ⟨r, hr⟩ : ∃ r, F[i]? = some r := ⟨_, List.getElem?_eq_getElem (by rw [HN.out]; exact hiN)⟩
      have hok := Hoks.out r (Hlog.out.mem r (List.mem_of_getElem? hr))
      have hdr : F.drop i = r :: F.drop (i + 1) := by
        obtain ⟨h1, h2⟩ := List.getElem?_eq_some_iff.1 hr
        rw [List.drop_eq_getElem_cons h1, h2]
      have hget : (D ++ F.drop i)[i]? = some r := by
        rw [hdr, List.getElem?_append_right (by rw [HD.out.1]; exact Nat.le_refl _), HD.out.1, Nat.sub_self]
        rfl
      have hset : ∀ x : Rc, (D ++ F.drop i).set i x = D ++ (x :: F.drop (i + 1)) := fun x => by
        rw [hdr, List.set_append_right _ _ (by rw [HD.out.1]; exact Nat.le_refl _), HD.out.1, Nat.sub_self]
        rfl
      obtain ⟨g, hgA, hgw, hgl⟩ := own_some Hown.out (Nat.lt_of_le_of_lt (Nat.zero_le i) hiN)
      subst hgA
      obtain ⟨r0, r1, r2, r3, r4, r5⟩ := own_rec Hown.out hget
      have Hdr := Lib.hid hdr
      have Hget := Lib.hid hget
      have Hset := Lib.hid hset
      clear hr hdr hget hset r1 r2 r4
      have p0 : (i : Int) < (N : Int) := by omega
      by_cases hi0 : i = 0
      · have d0 : decide (0 < i) = false := by simp; omega
        have hD0 : D = [] := List.eq_nil_of_length_eq_zero (HD.out.1.trans hi0)
        have hpn : pm = none := by rw [Hpm.out, hD0]; rfl
        obtain ⟨rfl, rfl⟩ := Hz.out hpn
        have Hpn := Lib.hid hpn
        clear hD0 hpn hi0
        go_wp2
        go_quiet (fail)
        go_upto_region 8 with (fail)
        refine wp_name (fun W => Below w.heap.size w W ∧ W.ownsRow w.heap.size 31 6 (.slice (some ⟨g, 0, none⟩) N c1) N (recCells (D ++ F.drop i))) ⟨below_drewN Hbm.out _, own_below Hown.out (below_drewN (Below.refl _ _) _)⟩ (fun V hV => ?_)
        obtain ⟨hbV, hoV⟩ := hV
        clear r0 r3 r5
        have HbV := Lib.hid hbV
        have HoV := Lib.hid hoV
        clear hbV hoV
        obtain ⟨r0, r1, r2, r3, r4, r5⟩ := own_rec HoV.out Hget.out
        clear r0 r1 r2
        have HI := Lib.hid (show (if pm = some r.mac then (0 : Int) else 0) = 0 by split <;> rfl)
        have HJ := Lib.hid (show (if pm = some r.mac then (0 : Int) else 0) = 0 by split <;> rfl)
        by_cases k0 : r.kind = 0
        · have k0b : (r.kind == 0) = true := by simpa using k0
          have hbb : 0 ≤ r.b ∧ r.b ≤ 10000 := by rcases hok.kind with h | h | h <;> omega
          have hC : D ++ (r :: closeL (some r.mac) (0 + 1) (0 + r.b) (F.drop (i + 1))) = closeL none 0 0 F := by
            rw [← HD.out.2, Hdr.out, closeL_sale k0]; simp only [HI.out, HJ.out]
          have HC := Lib.hid hC
          clear hC k0
          go_wp2
          go_roundw
          case rel =>
            refine ⟨i + 1, D ++ [r], some r.mac, 0 + 1, 0 + r.b, by omega, by go_num, by first | rfl | simp, by first | rfl | simp, by simp [HD.out.1], ?_, by simp, fun h => (by cases h), by omega, by omega, HbV.out, ?_⟩
            · rw [List.append_assoc]
              exact HC.out
            · rw [List.append_assoc]
              exact by have h := HoV.out; rw [Hdr.out] at h; exact h
          case measure => simp [intOf]; omega
        · have k0b : (r.kind == 0) = false := by simpa using k0
          by_cases k2 : r.kind = 2
          · have k2b : (r.kind == 2) = true := by simpa using k2
            have hC : D ++ ({ r with a := 0, b := 0 } :: closeL (some r.mac) 0 0 (F.drop (i + 1))) = closeL none 0 0 F := by
              rw [← HD.out.2, Hdr.out, closeL_close k2]; simp only [HI.out, HJ.out]
            have HC := Lib.hid hC
            have hst := (HoV.out.stored (i * 6 + 4) (.int .i64 0)).1
            have hst2 := (hst.stored (i * 6 + 5) (.int .i64 0)).1
            rw [recCells_ab _ i r 0 0 Hget.out, Hset.out] at hst2
            have Hst := Lib.hid hst2
            have z4 := HoV.out.frozenAt (i * 6 + 4)
            have z5 := HoV.out.frozenAt (i * 6 + 5)
            clear hC k0 k2 hst hst2
            go_wp2
            go_roundw
            case rel =>
              refine ⟨i + 1, D ++ [{ r with a := 0, b := 0 }], some r.mac, 0, 0, by omega, by go_num, by first | rfl | simp, by first | rfl | simp, by simp [HD.out.1], ?_, by simp, fun h => (by cases h), by omega, by omega, (HbV.out.setCell (p := ⟨g, i * 6 + 4, none⟩) hgw _).setCell (p := ⟨g, i * 6 + 5, none⟩) hgw _, ?_⟩
              · rw [List.append_assoc]
                exact HC.out
              · rw [List.append_assoc]
                exact Hst.out
            case measure => simp [intOf]; omega
          · have k2b : (r.kind == 2) = false := by simpa using k2
            have hC : D ++ (r :: closeL (some r.mac) 0 0 (F.drop (i + 1))) = closeL none 0 0 F := by
              rw [← HD.out.2, Hdr.out, closeL_other k0 k2]; simp only [HI.out, HJ.out]
            have HC := Lib.hid hC
            clear hC k0 k2
            go_wp2
            go_roundw
            case rel =>
              refine ⟨i + 1, D ++ [r], some r.mac, 0, 0, by omega, by go_num, by first | rfl | simp, by first | rfl | simp, by simp [HD.out.1], ?_, by simp, fun h => (by cases h), by omega, by omega, HbV.out, ?_⟩
              · rw [List.append_assoc]
                exact HC.out
              · rw [List.append_assoc]
                exact by have h := HoV.out; rw [Hdr.out] at h; exact h
            case measure => simp [intOf]; omega

      · obtain ⟨j, hj⟩ : ∃ j, i = j + 1 := ⟨i - 1, by omega⟩
        obtain ⟨p, hp⟩ : ∃ p, D[j]? = some p := ⟨_, List.getElem?_eq_getElem (by rw [HD.out.1]; omega)⟩
        have hgp : (D ++ F.drop i)[j]? = some p := by rw [List.getElem?_append_left (by rw [HD.out.1]; omega), hp]
        have hpmv : pm = some p.mac := by
          rw [Hpm.out, List.getLast?_eq_getElem?, HD.out.1, hj, Nat.add_sub_cancel, hp]
          rfl
        obtain ⟨t0, t1, t2, t3, t4, t5⟩ := own_rec Hown.out hgp
        have q1 : IntKind.i64.wrap ((i : Int) - 1) = (j : Int) := by rw [IntWalk.i64_in _ (by omega)]; omega
        have q2 : (i : Int) - 1 = (j : Int) := by omega
        have q3 : (j : Int) < (N : Int) := by omega
        have q5 : decide (0 < i) = true := by simp; omega
        have Hpmv := Lib.hid hpmv
        clear hp hgp hpmv hj hi0 t1 t2 t3 t4 t5
        by_cases hm : r.mac = p.mac
        · have hmb : (r.mac != p.mac) = false := by simpa using hm
          have Hm := Lib.hid hm
          clear hm
          go_wp2
          go_quiet (fail)
          go_upto_region 8 with (fail)
          refine wp_name (fun W => Below w.heap.size w W ∧ W.ownsRow w.heap.size 31 6 (.slice (some ⟨g, 0, none⟩) N c1) N (recCells (D ++ F.drop i))) ⟨below_drewN Hbm.out _, own_below Hown.out (below_drewN (Below.refl _ _) _)⟩ (fun V hV => ?_)
          obtain ⟨hbV, hoV⟩ := hV
          clear r0 r3 r5 t0
          have HbV := Lib.hid hbV
          have HoV := Lib.hid hoV
          clear hbV hoV
          obtain ⟨r0, r1, r2, r3, r4, r5⟩ := own_rec HoV.out Hget.out
          clear r0 r1 r2
          have HI := Lib.hid (show (if pm = some r.mac then Av else 0) = Av by rw [Hpmv.out, Hm.out, if_pos rfl])
          have HJ := Lib.hid (show (if pm = some r.mac then Bv else 0) = Bv by rw [Hpmv.out, Hm.out, if_pos rfl])
          by_cases k0 : r.kind = 0
          · have k0b : (r.kind == 0) = true := by simpa using k0
            have hbb : 0 ≤ r.b ∧ r.b ≤ 10000 := by rcases hok.kind with h | h | h <;> omega
            have hC : D ++ (r :: closeL (some r.mac) (Av + 1) (Bv + r.b) (F.drop (i + 1))) = closeL none 0 0 F := by
              rw [← HD.out.2, Hdr.out, closeL_sale k0]; simp only [HI.out, HJ.out]
            have HC := Lib.hid hC
            clear hC k0
            go_wp2
            go_roundw
            case rel =>
              refine ⟨i + 1, D ++ [r], some r.mac, Av + 1, Bv + r.b, by omega, by go_num, by first | rfl | simp, by first | rfl | simp, by simp [HD.out.1], ?_, by simp, fun h => (by cases h), by omega, by omega, HbV.out, ?_⟩
              · rw [List.append_assoc]
                exact HC.out
              · rw [List.append_assoc]
                exact by have h := HoV.out; rw [Hdr.out] at h; exact h
            case measure => simp [intOf]; omega
          · have k0b : (r.kind == 0) = false := by simpa using k0
            by_cases k2 : r.kind = 2
            · have k2b : (r.kind == 2) = true := by simpa using k2
              have hC : D ++ ({ r with a := Av, b := Bv } :: closeL (some r.mac) Av Bv (F.drop (i + 1))) = closeL none 0 0 F := by
                rw [← HD.out.2, Hdr.out, closeL_close k2]; simp only [HI.out, HJ.out]
              have HC := Lib.hid hC
              have hst := (HoV.out.stored (i * 6 + 4) (.int .i64 Av)).1
              have hst2 := (hst.stored (i * 6 + 5) (.int .i64 Bv)).1
              rw [recCells_ab _ i r Av Bv Hget.out, Hset.out] at hst2
              have Hst := Lib.hid hst2
              have z4 := HoV.out.frozenAt (i * 6 + 4)
              have z5 := HoV.out.frozenAt (i * 6 + 5)
              clear hC k0 k2 hst hst2
              go_wp2
              go_roundw
              case rel =>
                refine ⟨i + 1, D ++ [{ r with a := Av, b := Bv }], some r.mac, Av, Bv, by omega, by go_num, by first | rfl | simp, by first | rfl | simp, by simp [HD.out.1], ?_, by simp, fun h => (by cases h), by omega, by omega, (HbV.out.setCell (p := ⟨g, i * 6 + 4, none⟩) hgw _).setCell (p := ⟨g, i * 6 + 5, none⟩) hgw _, ?_⟩
                · rw [List.append_assoc]
                  exact HC.out
                · rw [List.append_assoc]
                  exact Hst.out
              case measure => simp [intOf]; omega
            · have k2b : (r.kind == 2) = false := by simpa using k2
              have hC : D ++ (r :: closeL (some r.mac) Av Bv (F.drop (i + 1))) = closeL none 0 0 F := by
                rw [← HD.out.2, Hdr.out, closeL_other k0 k2]; simp only [HI.out, HJ.out]
              have HC := Lib.hid hC
              clear hC k0 k2
              go_wp2
              go_roundw
              case rel =>
                refine ⟨i + 1, D ++ [r], some r.mac, Av, Bv, by omega, by go_num, by first | rfl | simp, by first | rfl | simp, by simp [HD.out.1], ?_, by simp, fun h => (by cases h), by omega, by omega, HbV.out, ?_⟩
                · rw [List.append_assoc]
                  exact HC.out
                · rw [List.append_assoc]
                  exact by have h := HoV.out; rw [Hdr.out] at h; exact h
              case measure => simp [intOf]; omega

        · have hmb : (r.mac != p.mac) = true := by simpa using hm
          have Hm := Lib.hid hm
          clear hm
          go_wp2
          go_quiet (fail)
          go_upto_region 8 with (fail)
          refine wp_name (fun W => Below w.heap.size w W ∧ W.ownsRow w.heap.size 31 6 (.slice (some ⟨g, 0, none⟩) N c1) N (recCells (D ++ F.drop i))) ⟨below_drewN Hbm.out _, own_below Hown.out (below_drewN (Below.refl _ _) _)⟩ (fun V hV => ?_)
          obtain ⟨hbV, hoV⟩ := hV
          clear r0 r3 r5 t0
          have HbV := Lib.hid hbV
          have HoV := Lib.hid hoV
          clear hbV hoV
          obtain ⟨r0, r1, r2, r3, r4, r5⟩ := own_rec HoV.out Hget.out
          clear r0 r1 r2
          have HI := Lib.hid (show (if pm = some r.mac then Av else 0) = 0 by rw [Hpmv.out, if_neg (fun h => Hm.out (Option.some.inj h).symm)])
          have HJ := Lib.hid (show (if pm = some r.mac then Bv else 0) = 0 by rw [Hpmv.out, if_neg (fun h => Hm.out (Option.some.inj h).symm)])
          by_cases k0 : r.kind = 0
          · have k0b : (r.kind == 0) = true := by simpa using k0
            have hbb : 0 ≤ r.b ∧ r.b ≤ 10000 := by rcases hok.kind with h | h | h <;> omega
            have hC : D ++ (r :: closeL (some r.mac) (0 + 1) (0 + r.b) (F.drop (i + 1))) = closeL none 0 0 F := by
              rw [← HD.out.2, Hdr.out, closeL_sale k0]; simp only [HI.out, HJ.out]
            have HC := Lib.hid hC
            clear hC k0
            go_wp2
            go_roundw
            case rel =>
              refine ⟨i + 1, D ++ [r], some r.mac, 0 + 1, 0 + r.b, by omega, by go_num, by first | rfl | simp, by first | rfl | simp, by simp [HD.out.1], ?_, by simp, fun h => (by cases h), by omega, by omega, HbV.out, ?_⟩
              · rw [List.append_assoc]
                exact HC.out
              · rw [List.append_assoc]
                exact by have h := HoV.out; rw [Hdr.out] at h; exact h
            case measure => simp [intOf]; omega
          · have k0b : (r.kind == 0) = false := by simpa using k0
            by_cases k2 : r.kind = 2
            · have k2b : (r.kind == 2) = true := by simpa using k2
              have hC : D ++ ({ r with a := 0, b := 0 } :: closeL (some r.mac) 0 0 (F.drop (i + 1))) = closeL none 0 0 F := by
                rw [← HD.out.2, Hdr.out, closeL_close k2]; simp only [HI.out, HJ.out]
              have HC := Lib.hid hC
              have hst := (HoV.out.stored (i * 6 + 4) (.int .i64 0)).1
              have hst2 := (hst.stored (i * 6 + 5) (.int .i64 0)).1
              rw [recCells_ab _ i r 0 0 Hget.out, Hset.out] at hst2
              have Hst := Lib.hid hst2
              have z4 := HoV.out.frozenAt (i * 6 + 4)
              have z5 := HoV.out.frozenAt (i * 6 + 5)
              clear hC k0 k2 hst hst2
              go_wp2
              go_roundw
              case rel =>
                refine ⟨i + 1, D ++ [{ r with a := 0, b := 0 }], some r.mac, 0, 0, by omega, by go_num, by first | rfl | simp, by first | rfl | simp, by simp [HD.out.1], ?_, by simp, fun h => (by cases h), by omega, by omega, (HbV.out.setCell (p := ⟨g, i * 6 + 4, none⟩) hgw _).setCell (p := ⟨g, i * 6 + 5, none⟩) hgw _, ?_⟩
                · rw [List.append_assoc]
                  exact HC.out
                · rw [List.append_assoc]
                  exact Hst.out
              case measure => simp [intOf]; omega
            · have k2b : (r.kind == 2) = false := by simpa using k2
              have hC : D ++ (r :: closeL (some r.mac) 0 0 (F.drop (i + 1))) = closeL none 0 0 F := by
                rw [← HD.out.2, Hdr.out, closeL_other k0 k2]; simp only [HI.out, HJ.out]
              have HC := Lib.hid hC
              clear hC k0 k2
              go_wp2
              go_roundw
              case rel =>
                refine ⟨i + 1, D ++ [r], some r.mac, 0, 0, by omega, by go_num, by first | rfl | simp, by first | rfl | simp, by simp [HD.out.1], ?_, by simp, fun h => (by cases h), by omega, by omega, HbV.out, ?_⟩
                · rw [List.append_assoc]
                  exact HC.out
                · rw [List.append_assoc]
                  exact by have h := HoV.out; rw [Hdr.out] at h; exact h
              case measure => simp [intOf]; omega

    · obtain rfl : i = N := by omega
      go_wp2
      go_ret
      have h1 := HD.out.2
      rw [List.drop_eq_nil_of_le (by rw [HN.out]; exact Nat.le_refl _)] at h1
      have h2 := Hown.out
      rw [List.drop_eq_nil_of_le (by rw [HN.out]; exact Nat.le_refl _)] at h2
      simp only [closeL, List.append_nil] at h1 h2
      exact ⟨F, A1, c1, Hlog.out, by rw [HN.out]; rfl, by rw [HN.out, ← h1]; exact h2, Hbm.out⟩
end Go.Proofs.YtckgapeednokjaaGreat
