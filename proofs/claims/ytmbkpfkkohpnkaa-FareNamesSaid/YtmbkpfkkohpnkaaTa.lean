import Derived.Test.YtmbkpfkkohpnkaaLp
set_option linter.unusedVariables false
set_option linter.unusedSimpArgs false
namespace Go.Proofs.Ytmbkpfkkohpnkaa
open Go Go.Proofs Go.RowKit

/-! ### Tickets of the reference -/
def anyS (l : List Rd) (x : Tk) (k : Nat) : Bool := decide (x.kind ≠ 0) || (l.take k).any fun r => decide (r.day = x.day) && decide (r.minute = x.minute)
theorem anyS_succ {l : List Rd} {x : Tk} {k : Nat} {r : Rd} (h : l[k]? = some r) : anyS l x (k + 1) = (anyS l x k || (decide (r.day = x.day) && decide (r.minute = x.minute))) := by
  unfold anyS
  rw [List.take_add_one, h, List.any_append, ← Bool.or_assoc]
  simp
theorem anyS_all {l : List Rd} {x : Tk} {k : Nat} (h : l.length ≤ k) : anyS l x k = startB l x := by
  unfold anyS startB
  rw [List.take_of_length_le h]
def anyP (t : Tar) (X : List Tk) (r : Rd) (k : Nat) : Bool := (X.take k).any fun x => covB t x r
theorem anyP_succ {t : Tar} {X : List Tk} {x : Tk} {k : Nat} {r : Rd} (h : X[k]? = some x) : anyP t X r (k + 1) = (anyP t X r k || covB t x r) := by
  unfold anyP
  rw [List.take_add_one, h, List.any_append]
  simp
theorem anyP_all {t : Tar} {X : List Tk} {r : Rd} {k : Nat} (h : X.length ≤ k) : anyP t X r k = paidB t X r := by
  unfold anyP paidB
  rw [List.take_of_length_le h]
theorem areTk_no1 {t : Tar} {l : List Rd} {X : List Tk} {x : Tk} (hx : x ∈ X) (h : tkB t x = false) : areTk t l X = false := by
  cases ha : areTk t l X with
  | false => rfl
  | true => rw [((areTk_iff.1 ha).1 x hx).1] at h; cases h
theorem areTk_no2 {t : Tar} {l : List Rd} {X : List Tk} {x : Tk} (hx : x ∈ X) (h : startB l x = false) : areTk t l X = false := by
  cases ha : areTk t l X with
  | false => rfl
  | true => rw [((areTk_iff.1 ha).1 x hx).2] at h; cases h
theorem areTk_no3 {t : Tar} {l : List Rd} {X : List Tk} {r : Rd} (hr : r ∈ l) (h : paidB t X r = false) : areTk t l X = false := by
  cases ha : areTk t l X with
  | false => rfl
  | true => rw [(areTk_iff.1 ha).2 r hr] at h; cases h
theorem tk_minute {t : Tar} {x : Tk} (h : tkB t x = true) : x.kind < 256 ∧ 0 ≤ x.minute ∧ x.minute ≤ 1439 := by
  obtain ⟨h1, _, h3⟩ := tkB_iff.1 h
  by_cases h0 : x.kind = 0
  · rw [if_pos h0] at h3
    omega
  · rw [if_neg h0] at h3
    omega
set_option maxRecDepth 100000 in
set_option maxHeartbeats 4000000 in
theorem AreTickets_ref (t : Tar) (a b c v z : Value) (l : List Rd) (X : List Tk) (w : World) (ht : tarB t = true) (hv : RdsAt w v l) (hz : TksAt w z X) (hk : ∀ x ∈ X, x.kind < 256) (hl : l.length ≤ 1000000 ∧ X.length ≤ 1000000) : Calls Try.prog 24 #[.agg #[.int .i64 t.zones, a, b, c, .int .i64 t.window], v, z] w (Gives w (.bool (areTk t l X))) := by
  obtain ⟨Av, cv, rfl, _, _⟩ := hv.form
  obtain ⟨Az, cz, rfl, _, _⟩ := hz.form
  obtain ⟨N, hN⟩ : ∃ N, l.length = N := ⟨_, rfl⟩
  obtain ⟨M, hM⟩ : ∃ M, X.length = M := ⟨_, rfl⟩
  rw [hN] at hv hl ⊢
  rw [hM] at hz hl ⊢
  obtain ⟨hl1, hl2⟩ := hl
  have HN := Lib.hid hN
  have HM := Lib.hid hM
  have Hv := Lib.hid hv
  have Hz := Lib.hid hz
  have Ht := Lib.hid ht
  have Hk := Lib.hid hk
  obtain ⟨E, hE⟩ : ∃ E, areTk t l X = E := ⟨_, rfl⟩
  rw [hE]
  have fin : ∀ (q : Bool) (W : World), areTk t l X = q → Below w.heap.size w W → Gives w (.bool E) (.returned (.bool q)) W := fun q W h hb => gives_bool (h.symm.trans hE) hb
  have Fin := Lib.hid fin
  clear hv hz ht hk hN hM hE fin
  go_enter Try.func24, Try.ntmps24
  go_upto_region 1 with (fail)
  refine wp_name (fun W => Below w.heap.size w W ∧ W.heap[w.heap.size]? = some (.cells #[.int .i64 t.zones, a, b, c, .int .i64 t.window] 24 (0, 0))) ⟨(Below.refl _ _).alloc (Nat.le_refl _) _, heap_alloc_new w _⟩ (fun W0 hW => ?_)
  obtain ⟨hb0, hx0⟩ := hW
  have HB0 := Lib.hid hb0
  have HX0 := Lib.hid hx0
  clear hb0 hx0
  go_wp2
  go_loopw [7] (fun s wr => ∃ i : Nat, i ≤ M ∧ s = .int .i64 i ∧ Below W0.heap.size W0 wr ∧ ∀ (j : Nat) (x : Tk), j < i → X[j]? = some x → tkB t x = true ∧ startB l x = true) (fun s wr => M - (intOf s).toNat)
  case atStart => exact ⟨0, by omega, rfl, Below.refl _ _, by intro j x h; omega⟩
  case round =>
    obtain ⟨i, hi, rfl, hbr, hall⟩ := hrel
    have Hbr := Lib.hid hbr
    have Hall := Lib.hid hall
    have HXr := Lib.hid ((hbr.block _ (Array.getElem?_eq_some_iff.1 HX0.out).1).trans HX0.out)
    clear hbr hall
    by_cases hlt : i < M
    · obtain ⟨bb, oo, x, rfl, hx, d0, d1, d2, d3, d4, _⟩ := ((Hz.out.below HB0.out).below Hbr.out).at_ (n := M) (k := i) (by have := HM.out; omega)
      have ii : (i : Int) < (M : Int) := by omega
      have Hx := Lib.hid hx
      have hk8 := Hk.out x (List.mem_of_getElem? hx)
      clear hx
      go_upto_region 5 with (fail)
      refine wp_name (fun V => Below wr.heap.size wr V ∧ V.heap[wr.heap.size]? = some (.cells #[.int .u8 (x.kind : Int), .int .i64 x.low, .int .i64 x.high, .int .i64 x.day, .int .i64 x.minute] 101 (0, 0))) ⟨(Below.refl _ _).alloc (Nat.le_refl _) _, heap_alloc_new wr _⟩ (fun V hV => ?_)
      obtain ⟨hbV, hpV⟩ := hV
      have HBV := Lib.hid (Hbr.out.trans (hbV.mono Hbr.out.size))
      have HXV := Lib.hid ((hbV.block _ (Array.getElem?_eq_some_iff.1 HXr.out).1).trans HXr.out)
      have HPV := Lib.hid hpV
      obtain ⟨PB, hPB⟩ : ∃ PB, wr.heap.size = PB := ⟨_, rfl⟩
      rw [hPB] at HPV ⊢
      clear hbV hpV d0 d1 d2 d3 d4 hPB
      have aq := box_cells HXV.out
      have a0 := aq 0
      have a1 := aq 1
      have a2 := aq 2
      have a3 := aq 3
      have a4 := aq 4
      simp only [List.getElem?_toArray, List.getElem?_cons_zero, List.getElem?_cons_succ] at a0 a1 a2 a3 a4
      clear aq
      have pq := box_cells HPV.out
      have p0 := pq 0
      have p1 := pq 1
      have p2 := pq 2
      have p3 := pq 3
      have p4 := pq 4
      simp only [List.getElem?_toArray, List.getElem?_cons_zero, List.getElem?_cons_succ] at p0 p1 p2 p3 p4
      clear pq
      go_wp2_with fail
      refine (IsTicket_ref t a b c x V hk8).mono ?_
      rintro e w2 ⟨rfl, hb2⟩
      have HB2 := Lib.hid (HBV.out.trans (hb2.mono HBV.out.size))
      have HP2 := Lib.hid ((hb2.block _ (Array.getElem?_eq_some_iff.1 HPV.out).1).trans HPV.out)
      clear a0 a1 a2 a3 a4 p0 p1 p2 p3 p4 hb2
      cases htk : tkB t x with
      | false =>
        have hf := Lib.hid (areTk_no1 (l := l) (List.mem_of_getElem? Hx.out) htk)
        clear htk
        go_wp2
        go_ret
        exact Fin.out _ _ hf.out (HB0.out.trans (HB2.out.mono HB0.out.size))
      | true =>
        have Htk := Lib.hid htk
        clear htk
        have pq := box_cells HP2.out
        have p0 := pq 0
        have p1 := pq 1
        have p2 := pq 2
        have p3 := pq 3
        have p4 := pq 4
        simp only [List.getElem?_toArray, List.getElem?_cons_zero, List.getElem?_cons_succ] at p0 p1 p2 p3 p4
        clear pq
        have hne : ((x.kind : Int) != 0) = anyS l x 0 := by
          unfold anyS
          by_cases h : x.kind = 0 <;> simp [h]
        obtain ⟨W3, hW3⟩ : ∃ W3, w2 = W3 := ⟨_, rfl⟩
        rw [hW3] at HB2 HP2 p0 p1 p2 p3 p4 ⊢
        clear hW3
        go_wp2
        go_loopw [9, 10] (fun f s wr => ∃ k : Nat, k ≤ N ∧ f = .bool (anyS l x k) ∧ s = .int .i64 k ∧ Below W3.heap.size W3 wr) (fun f s wr => N - (intOf s).toNat)
        case atStart => exact ⟨0, by omega, by first | rfl | rw [hne], rfl, Below.refl _ _⟩
        case round =>
          obtain ⟨k, hk, rfl, rfl, hbk⟩ := hrel
          have Hbk := Lib.hid hbk
          by_cases hlk : k < N
          · obtain ⟨b2, o2, r, rfl, hr, f0, f1, f2, f3, _⟩ := (((Hv.out.below HB0.out).below HB2.out).below hbk).at_ (n := N) (k := k) (by have := HN.out; omega)
            have ik : (k : Int) < (N : Int) := by omega
            have hsu := anyS_succ (x := x) hr
            have Hsu := Lib.hid hsu
            have g3 := Later.cell (cell_below hbk p3)
            have g4 := Later.cell (cell_below hbk p4)
            replace f0 := Later.cell f0
            replace f1 := Later.cell f1
            clear hr hsu hbk
            cases han : anyS l x k with
            | true =>
              rw [han] at Hsu
              have Han := Lib.hid han
              clear han
              go_upto_region 11 with (fail)
              refine wp_region_later (by kernel_rfl) (by kernel_rfl) ?_
              repeat (change wpQuiet _ _ _ _ (_ :: _) _; go_big_quiet_step (fail))
              refine wpQuiet_nil ?_
              intro w5 hL5
              have hb5 := Later.out hL5
              clear hL5 f0 f1 f2 f3 g3 g4
              go_wp2
              go_roundw
              case rel => exact ⟨k + 1, by omega, by rw [Hsu.out]; rfl, by go_num, Hbk.out.trans (hb5.mono Hbk.out.size)⟩
              case measure => simp [intOf]; omega
            | false =>
              rw [han] at Hsu
              have Han := Lib.hid han
              clear han
              by_cases e1 : r.day = x.day
              rotate_left
              · have b1 : (r.day == x.day) = false := by simpa using e1
                have E1 := Lib.hid e1
                clear e1
                go_upto_region 11 with (fail)
                refine wp_region_later (by kernel_rfl) (by kernel_rfl) ?_
                repeat (change wpQuiet _ _ _ _ (_ :: _) _; go_big_quiet_step (fail))
                refine wpQuiet_nil ?_
                intro w5 hL5
                have hb5 := Later.out hL5
                clear hL5 f0 f1 f2 f3 g3 g4
                go_wp2
                go_roundw
                case rel => exact ⟨k + 1, by omega, by rw [Hsu.out, decide_eq_false E1.out]; rfl, by go_num, Hbk.out.trans (hb5.mono Hbk.out.size)⟩
                case measure => simp [intOf]; omega
              · have b1 : (r.day == x.day) = true := by simp [e1]
                have b2 : (r.minute == x.minute) = decide (r.minute = x.minute) := by by_cases h : r.minute = x.minute <;> simp [h]
                have E1 := Lib.hid e1
                clear e1
                go_upto_region 11 with (fail)
                refine wp_region_later (by kernel_rfl) (by kernel_rfl) ?_
                repeat (change wpQuiet _ _ _ _ (_ :: _) _; go_big_quiet_step (fail))
                refine wpQuiet_nil ?_
                intro w5 hL5
                have hb5 := Later.out hL5
                clear hL5 f0 f1 f2 f3 g3 g4
                go_wp2
                go_roundw
                case rel => exact ⟨k + 1, by omega, by rw [Hsu.out, decide_eq_true E1.out]; simp, by go_num, Hbk.out.trans (hb5.mono Hbk.out.size)⟩
                case measure => simp [intOf]; omega
          · have ik : ¬ (k : Int) < (N : Int) := by omega
            have hst : anyS l x k = startB l x := anyS_all (by have := HN.out; omega)
            rw [hst]
            have HBk := Lib.hid (HB2.out.trans (hbk.mono HB2.out.size))
            clear hst hbk p0 p1 p2 p3 p4
            cases hsb : startB l x with
            | false =>
              have hf := Lib.hid (areTk_no2 (t := t) (List.mem_of_getElem? Hx.out) hsb)
              clear hsb
              go_wp2
              go_ret
              exact Fin.out _ _ hf.out (HB0.out.trans (HBk.out.mono HB0.out.size))
            | true =>
              have Hsb := Lib.hid hsb
              clear hsb
              go_wp2
              go_roundw
              case rel =>
                refine ⟨i + 1, by omega, by go_num, HBk.out, fun j y hj hy => ?_⟩
                by_cases e : j = i
                · subst e
                  rw [Hx.out] at hy
                  cases hy
                  exact ⟨Htk.out, Hsb.out⟩
                · exact Hall.out j y (by omega) hy
              case measure => simp [intOf]; omega
    · have ii : ¬ (i : Int) < (M : Int) := by omega
      have hal : ∀ x ∈ X, tkB t x = true ∧ startB l x = true := fun x hx => by
        obtain ⟨j, hj⟩ := List.getElem?_of_mem hx
        exact Hall.out j x (by have := (List.getElem?_eq_some_iff.1 hj).1; have := HM.out; omega) hj
      have Hal := Lib.hid hal
      have HBr := Lib.hid (HB0.out.trans (Hbr.out.mono HB0.out.size))
      clear hal Hall Hbr HB0 HX0
      obtain ⟨W4, hW4⟩ : ∃ W4, wr = W4 := ⟨_, rfl⟩
      rw [hW4] at HBr HXr ⊢
      clear hW4
      go_wp2
      go_loopw [11] (fun s wr => ∃ i : Nat, i ≤ N ∧ s = .int .i64 i ∧ Below W4.heap.size W4 wr ∧ ∀ (j : Nat) (r : Rd), j < i → l[j]? = some r → paidB t X r = true) (fun s wr => N - (intOf s).toNat)
      case atStart => exact ⟨0, by omega, rfl, Below.refl _ _, by intro j x h; omega⟩
      case round =>
        obtain ⟨i, hi, rfl, hbi, hall⟩ := hrel
        have Hbi := Lib.hid hbi
        have Hall := Lib.hid hall
        clear hbi hall
        by_cases hlt : i < N
        · have ii : (i : Int) < (N : Int) := by omega
          obtain ⟨W5, hW5⟩ : ∃ W5, wr = W5 := ⟨_, rfl⟩
          rw [hW5] at Hbi ⊢
          clear hW5
          obtain ⟨r, hr⟩ : ∃ r, l[i]? = some r := ⟨_, List.getElem?_eq_getElem (by have := HN.out; omega)⟩
          have Hr := Lib.hid hr
          clear hr
          go_wp2
          go_loopw [12, 13] (fun f s wr => ∃ k : Nat, k ≤ M ∧ f = .bool (anyP t X r k) ∧ s = .int .i64 k ∧ Below W5.heap.size W5 wr) (fun f s wr => M - (intOf s).toNat)
          case atStart => exact ⟨0, by omega, by simp [anyP], rfl, Below.refl _ _⟩
          case round =>
            obtain ⟨k, hk, rfl, rfl, hbk⟩ := hrel
            have Hbk := Lib.hid hbk
            by_cases hlk : k < M
            · have hB := Hbi.out.trans (hbk.mono Hbi.out.size)
              obtain ⟨b2, o2, r', rfl, hr', f0, f1, f2, f3, _⟩ := ((Hv.out.below HBr.out).below hB).at_ (n := N) (k := i) (by have := HN.out; omega)
              have hrr : r' = r := by have := Hr.out; rw [hr'] at this; injection this
              subst hrr
              obtain ⟨b3, o3, x, rfl, hx, d0, d1, d2, d3, d4, _⟩ := ((Hz.out.below HBr.out).below hB).at_ (n := M) (k := k) (by have := HM.out; omega)
              have ik : (k : Int) < (M : Int) := by omega
              have hsu := anyP_succ (t := t) (r := r') hx
              have Hsu := Lib.hid hsu
              have htk := (Hal.out x (List.mem_of_getElem? hx)).1
              obtain ⟨k8, km⟩ := tk_minute htk
              have hwn := tar_pos Ht.out
              have Hcov := Lib.hid (fun W => Covers_ref t a b c x r' W k8 km ⟨hwn.2.2.1, hwn.2.2.2⟩)
              have hX := (hB.block _ (Array.getElem?_eq_some_iff.1 HXr.out).1).trans HXr.out
              have aq := box_cells hX
              have a0 := aq 0
              have a1 := aq 1
              have a2 := aq 2
              have a3 := aq 3
              have a4 := aq 4
              simp only [List.getElem?_toArray, List.getElem?_cons_zero, List.getElem?_cons_succ] at a0 a1 a2 a3 a4
              clear aq
              clear hx hr' hsu htk k8 km hwn hX hB hbk
              replace f0 := Later.cell f0
              replace f1 := Later.cell f1
              replace f2 := Later.cell f2
              replace f3 := Later.cell f3
              replace d0 := Later.cell d0
              replace d1 := Later.cell d1
              replace d2 := Later.cell d2
              replace d3 := Later.cell d3
              replace d4 := Later.cell d4
              replace a0 := Later.cell a0
              replace a1 := Later.cell a1
              replace a2 := Later.cell a2
              replace a3 := Later.cell a3
              replace a4 := Later.cell a4
              cases han : anyP t X r' k with
              | true =>
                rw [han] at Hsu
                have Han := Lib.hid han
                clear han
                go_upto_region 21 with (fail)
                refine wp_region_later (by kernel_rfl) (by kernel_rfl) ?_
                repeat (change wpQuiet _ _ _ _ (_ :: _) _; go_big_quiet_step (fail))
                refine wpQuiet_nil ?_
                intro w6 hL6
                have hb6 := Later.out hL6
                clear hL6 f0 f1 f2 f3 d0 d1 d2 d3 d4 a0 a1 a2 a3 a4
                go_wp2
                go_roundw
                case rel => exact ⟨k + 1, by omega, by rw [Hsu.out]; rfl, by go_num, Hbk.out.trans (hb6.mono Hbk.out.size)⟩
                case measure => simp [intOf]; omega
              | false =>
                rw [han] at Hsu
                have Han := Lib.hid han
                clear han
                go_upto_region 21 with (fail)
                refine wp_region_later (by kernel_rfl) (by kernel_rfl) ?_
                repeat (change wpQuiet _ _ _ _ (_ :: _) _; go_big_quiet_step (fail))
                go_big_quiet_step ((go_at_call 55; exact Later.call (Hcov.out _)))
                repeat (change wpQuiet _ _ _ _ (_ :: _) _; go_big_quiet_step (fail))
                refine wpQuiet_nil ?_
                intro w6 hL6
                have hb6 := Later.out hL6
                clear hL6 f0 f1 f2 f3 d0 d1 d2 d3 d4 a0 a1 a2 a3 a4
                go_wp2
                go_roundw
                case rel => exact ⟨k + 1, by omega, by rw [Hsu.out]; simp, by go_num, Hbk.out.trans (hb6.mono Hbk.out.size)⟩
                case measure => simp [intOf]; omega
            · have ik : ¬ (k : Int) < (M : Int) := by omega
              have hst : anyP t X r k = paidB t X r := anyP_all (by have := HM.out; omega)
              rw [hst]
              have HBk := Lib.hid (Hbi.out.trans (hbk.mono Hbi.out.size))
              clear hst hbk
              cases hpb : paidB t X r with
              | false =>
                have hf := Lib.hid (areTk_no3 (List.mem_of_getElem? Hr.out) hpb)
                clear hpb
                go_wp2
                go_ret
                exact Fin.out _ _ hf.out (HBr.out.trans (HBk.out.mono HBr.out.size))
              | true =>
                have Hpb := Lib.hid hpb
                clear hpb
                go_wp2
                go_roundw
                case rel =>
                  refine ⟨i + 1, by omega, by go_num, HBk.out, fun j y hj hy => ?_⟩
                  by_cases e : j = i
                  · subst e
                    rw [Hr.out] at hy
                    cases hy
                    exact Hpb.out
                  · exact Hall.out j y (by omega) hy
                case measure => simp [intOf]; omega
        · have ii : ¬ (i : Int) < (N : Int) := by omega
          have hf := Lib.hid (areTk_iff.2 ⟨Hal.out, fun r hr => by
            obtain ⟨j, hj⟩ := List.getElem?_of_mem hr
            exact Hall.out j r (by have := (List.getElem?_eq_some_iff.1 hj).1; have := HN.out; omega) hj⟩)
          go_wp2
          go_ret
          exact Fin.out _ _ hf.out (HBr.out.trans (Hbi.out.mono HBr.out.size))
theorem sumT_take {t : Tar} {X : List Tk} {k : Nat} {x : Tk} (h : X[k]? = some x) : sumT t (X.take (k + 1)) = sumT t (X.take k) + priceT t x := by
  rw [List.take_add_one, h, sumT_append]
  simp [sumT]
theorem sumT_bd3 {t : Tar} (ht : tarB t = true) : ∀ X : List Tk, 0 ≤ sumT t X ∧ sumT t X ≤ 10000 * (X.length : Int)
  | [] => by simp [sumT]
  | x :: X => by
    have h1 := sumT_bd3 ht X
    have h2 := price_bd ht x
    simp only [sumT, List.length_cons]
    omega
set_option maxRecDepth 100000 in
set_option maxHeartbeats 2000000 in
theorem Sum_ref (t : Tar) (a b c z : Value) (X : List Tk) (w : World) (ht : tarB t = true) (hT : TarAt w a b c t) (hz : TksAt w z X) (hX : ∀ x ∈ X, tkB t x = true) (hl : X.length ≤ 1000) : Calls Try.prog 26 #[.agg #[.int .i64 t.zones, a, b, c, .int .i64 t.window], z] w (Gives w (.int .i64 (sumT t X))) := by
  obtain ⟨Az, cz, rfl, _, _⟩ := hz.form
  obtain ⟨M, hM⟩ : ∃ M, X.length = M := ⟨_, rfl⟩
  rw [hM] at hz hl ⊢
  have hb0 : Below w.heap.size w (w.alloc (.cells #[.int .i64 t.zones, a, b, c, .int .i64 t.window] 24)) := (Below.refl _ _).alloc (Nat.le_refl _) _
  have hx0 : (w.alloc (.cells #[.int .i64 t.zones, a, b, c, .int .i64 t.window] 24)).heap[w.heap.size]? = some (.cells #[.int .i64 t.zones, a, b, c, .int .i64 t.window] 24 (0, 0)) := heap_alloc_new w _
  have HM := Lib.hid hM
  have Hz := Lib.hid hz
  have HT := Lib.hid hT
  have Ht := Lib.hid ht
  have HX := Lib.hid hX
  have Hb0 := Lib.hid hb0
  have Hx0 := Lib.hid hx0
  clear hz hT ht hX hM hb0 hx0
  go_enter Try.func26, Try.ntmps26
  go_upto_region 1 with (fail)
  refine wp_name (fun V => Below w.heap.size w V ∧ V.heap[w.heap.size]? = some (.cells #[.int .i64 t.zones, a, b, c, .int .i64 t.window] 24 (0, 0))) ⟨Hb0.out, Hx0.out⟩ (fun V hV => ?_)
  obtain ⟨hbV, hxV⟩ := hV
  have HBV := Lib.hid hbV
  have HXV := Lib.hid hxV
  clear hbV hxV Hb0 Hx0
  go_wp2
  go_loopw [5, 6] (fun q s wr => ∃ k : Nat, k ≤ M ∧ q = .int .i64 (sumT t (X.take k)) ∧ s = .int .i64 k ∧ Below V.heap.size V wr) (fun q s wr => M - (intOf s).toNat)
  case atStart => exact ⟨0, by omega, rfl, rfl, Below.refl _ _⟩
  case round =>
    obtain ⟨k, hk, rfl, rfl, hbr⟩ := hrel
    have Hbr := Lib.hid hbr
    by_cases hlt : k < M
    · obtain ⟨b3, o3, x, rfl, hx, d0, d1, d2, d3, d4, _⟩ := ((Hz.out.below HBV.out).below hbr).at_ (n := M) (k := k) (by have := HM.out; omega)
      have ik : (k : Int) < (M : Int) := by omega
      have hsu := sumT_take (t := t) hx
      have hpx := price_bd Ht.out x
      have hsb := sumT_bd3 Ht.out (X.take k)
      have hsl : ((X.take k).length : Int) ≤ 1000 := by rw [List.length_take]; omega
      obtain ⟨ss, hss⟩ : ∃ ss, sumT t (X.take k) = ss := ⟨_, rfl⟩
      obtain ⟨px, hp⟩ : ∃ px, priceT t x = px := ⟨_, rfl⟩
      rw [hss] at hsu hsb ⊢
      rw [hp] at hsu hpx
      have wq : IntKind.i64.wrap (ss + px) = ss + px := IntWalk.i64_in _ (by omega)
      obtain ⟨_, ⟨z1, z2, z3⟩, _⟩ := tkB_iff.1 (HX.out x (List.mem_of_getElem? hx))
      have hX := (hbr.block _ (Array.getElem?_eq_some_iff.1 HXV.out).1).trans HXV.out
      have aq := box_cells hX
      have a0 := aq 0
      have a1 := aq 1
      have a2 := aq 2
      have a3 := aq 3
      have a4 := aq 4
      simp only [List.getElem?_toArray, List.getElem?_cons_zero, List.getElem?_cons_succ] at a0 a1 a2 a3 a4
      clear aq
      have hTr := (HT.out.below HBV.out).below hbr
      have Hpr := Lib.hid (fun (W : World) (hW : Below wr.heap.size wr W) => Price_ref t a b c x W (hTr.below hW) Ht.out z1 z2 z3)
      rw [hp] at Hpr
      have Hsu := Lib.hid hsu
      clear hx hsu hpx hsb hsl hss hp z1 z2 z3 hX hTr hbr
      replace d0 := Later.cell d0
      replace d1 := Later.cell d1
      replace d2 := Later.cell d2
      replace d3 := Later.cell d3
      replace d4 := Later.cell d4
      replace a0 := Later.cell a0
      replace a1 := Later.cell a1
      replace a2 := Later.cell a2
      replace a3 := Later.cell a3
      replace a4 := Later.cell a4
      go_upto_region 5 with (fail)
      refine wp_region_later (by kernel_rfl) (by kernel_rfl) ?_
      repeat (change wpQuiet _ _ _ _ (_ :: _) _; go_big_quiet_step (fail))
      go_big_quiet_step ((go_at_call 56; exact Later.call (Hpr.out _ (Subtype.property _))))
      repeat (change wpQuiet _ _ _ _ (_ :: _) _; go_big_quiet_step (fail))
      refine wpQuiet_nil ?_
      intro w6 hL6
      have hb6 := Later.out hL6
      clear hL6 d0 d1 d2 d3 d4 a0 a1 a2 a3 a4
      go_wp2
      go_roundw
      case rel => exact ⟨k + 1, by omega, by rw [Hsu.out], by go_num, Hbr.out.trans (hb6.mono Hbr.out.size)⟩
      case measure => simp [intOf]; omega
    · have ik : ¬ (k : Int) < (M : Int) := by omega
      have hke : X.take k = X := List.take_of_length_le (by have := HM.out; omega)
      rw [hke]
      clear hbr hke
      go_wp2
      go_ret
      exact ⟨rfl, HBV.out.trans (Hbr.out.mono HBV.out.size)⟩
theorem info_Back_law : (Try.prog.info? 101).map (fun i => (i.zero, i.size, i.bytes)) = some (some (.agg #[.int .u8 0, .int .i64 0, .int .i64 0, .int .i64 0, .int .i64 0]), 5, 40) := by kernel_rfl
set_option maxRecDepth 100000 in
set_option maxHeartbeats 2000000 in
theorem Back_law (v : Value) (l : List Tk) (w : World) (hv : TksAt w v l) (hl : l.length ≤ 1000000) : Calls Try.prog 25 #[v] w fun e w' => ∃ A c, e = .returned (.slice A l.length c) ∧ TksAt w' (.slice A l.length c) l ∧ Below w.heap.size w w' := by
  obtain ⟨Av, cv, rfl, _, _⟩ := hv.form
  obtain ⟨i0, hi0, hz0, hz1, hz2⟩ := info_parts info_Back_law
  obtain ⟨N, hN⟩ : ∃ N, l.length = N := ⟨_, rfl⟩
  rw [hN] at hv hl ⊢
  have HN := Lib.hid hN
  have ho0 : w.ownsRow w.heap.size 101 5 (.slice none 0 0) 0 ([] : List Value) := World.ownsRow_nil _ _ _ _
  have Hv := Lib.hid hv
  clear hv hN
  go_enter Try.func25, Try.ntmps25
  go_wp2
  go_loopw [3, 4] (fun o s wr => ∃ (k : Nat) (A : Option Addr) (c : Nat), k ≤ N ∧ o = .slice A k c ∧ s = .int .i64 k ∧ Below w.heap.size w wr ∧ wr.ownsRow w.heap.size 101 5 (.slice A k c) k ((l.take k).flatMap tkC)) (fun o s wr => N - (intOf s).toNat)
  case atStart => exact ⟨0, none, 0, by omega, rfl, rfl, Below.refl _ _, ho0⟩
  case round =>
    obtain ⟨k, A, c, hk, rfl, rfl, hbr, hor⟩ := hrel
    have Hbr := Lib.hid hbr
    have Hor := Lib.hid hor
    clear hbr hor ho0
    by_cases hlt : k < N
    · obtain ⟨bb, oo, x, rfl, hx, d0, d1, d2, d3, d4, _⟩ := Hv.out.at_ (n := N) (k := k) (by have := HN.out; omega)
      have ik : (k : Int) < (N : Int) := by omega
      have htk : l.take (k + 1) = l.take k ++ [x] := by rw [List.take_add_one, hx]; rfl
      have Htk := Lib.hid htk
      have hd : Below w.heap.size w wr.drew := Hbr.out.drew
      have Ho5 := Lib.hid (own_below Hor.out ((Below.refl _ _).drew))
      clear hx htk
      go_upto_region 5 with (fail)
      refine wp_region_noPanic ?_
      refine wp_region_pick [0, 1, 2, 3, 4, 5, 6, 7, 8, 9, 10, 11, 12, 13, 14, 15, 16, 17, 18, 19, 20, 21, 22, 23, 24, 25, 26] [27, 28, 29] (fun _ => true) (fun w' => Below w.heap.size w w') (by kernel_rfl) (by kernel_rfl) (fun _ _ _ _ _ h => h) hd (fun hne => ?_)
      have n0 := fun y : Meets (fun w' => Below w.heap.size w w') => cell_below y.property d0
      have n1 := fun y : Meets (fun w' => Below w.heap.size w w') => cell_below y.property d1
      have n2 := fun y : Meets (fun w' => Below w.heap.size w w') => cell_below y.property d2
      have n3 := fun y : Meets (fun w' => Below w.heap.size w w') => cell_below y.property d3
      have n4 := fun y : Meets (fun w' => Below w.heap.size w w') => cell_below y.property d4
      simp only [pick, pickN, List.filterMap_cons, List.filterMap_nil, List.getElem?_cons_zero, List.getElem?_cons_succ, Option.map_some]
      repeat (change wpQuiet _ _ _ _ (_ :: _) _; go_big_quiet_step (fail))
      refine wpQuiet_nil ?_
      clear n0 n1 n2 n3 n4 hne d0 d1 d2 d3 d4
      refine wpSeqP_step (fun K hK => ?_)
      go_simp
      have hbc := hd.alloc hd.size (.cells (tkC x).toArray 101)
      refine hK.out _ _ (fun _ => hbc) ?_
      clear hK K
      refine wpSeqP_step (fun K hK => ?_)
      refine step_append_src _ rfl (.tmp 11) (.tmp 38) 41 rfl w.heap.size 101 i0 _ 5 40 Try.underlying41 hi0 hz0 hz1 hz2 rfl (by omega) _ k _ rfl (Ho5.out.alloc _) (some ⟨wr.drew.heap.size, 0, none⟩) 1 1 (tkC x) rfl (src_new wr.drew (tkC x) 101 1 5 rfl) (by simp [tkC, Value.oneCell']) (by unfold maxLen; omega) (by omega) (Nat.le_trans hd.size (by simp)) ?_
      intro A6 c6 w6 hown6 hg6 hat6
      have hb6 : Below w.heap.size w w6 := below_grown hbc hg6 (Nat.le_trans hd.size (by simp)) (Ho5.out.alloc _) (Nat.le_refl _)
      refine hK.out _ _ (fun _ => hb6) ?_
      clear hK K
      refine wpSeqP_step (fun K hK => ?_)
      go_simp
      refine hK.out _ _ (fun _ => hb6) ?_
      clear hK K
      refine wpSeqP_nil ?_
      refine NoPanic.normal ?_
      have Hb6 := Lib.hid hb6
      have Ho6 := Lib.hid hown6
      clear hown6 hg6 hat6 hb6
      go_wp2
      go_roundw
      case rel =>
        refine ⟨k + 1, A6, c6, by omega, rfl, by go_num, Hb6.out, ?_⟩
        rw [Htk.out, List.flatMap_append]
        simpa using Ho6.out
      case measure => simp [intOf]; omega
    · have hke : k = l.length := by have := HN.out; omega
      have ik : ¬ (k : Int) < (N : Int) := by omega
      have hkN : k = N := by omega
      have ho := Hor.out
      rw [hke, List.take_length] at ho
      have hr := tks_own ho
      rw [HN.out] at hr
      have Hr := Lib.hid hr
      subst hkN
      clear hke ho hr
      go_wp2
      go_ret
      exact ⟨A, c, rfl, Hr.out, Hbr.out⟩
end Go.Proofs.Ytmbkpfkkohpnkaa
