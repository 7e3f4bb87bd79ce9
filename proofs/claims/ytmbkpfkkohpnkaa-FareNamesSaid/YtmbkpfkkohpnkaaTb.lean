import Derived.Test.YtmbkpfkkohpnkaaTa
set_option linter.unusedVariables false
set_option linter.unusedSimpArgs false
namespace Go.Proofs.Ytmbkpfkkohpnkaa
open Go Go.Proofs Go.RowKit

/-! ### ProveTickets -/
def proveB (t : Tar) (l : List Rd) (X : List Tk) (p : Int) : Bool := decide (ridesF t l = 0) && (decide (X.length ≤ 30) && (areTk t l X && decide (sumT t X ≤ p)))
set_option maxRecDepth 100000 in
theorem begins_any (x : Tk) (r : Rd) (PB : Nat) (w : World) (hP : w.heap[PB]? = some (.cells #[.int .u8 (x.kind : Int), .int .i64 x.low, .int .i64 x.high, .int .i64 x.day, .int .i64 x.minute] 89 (0, 0))) : Calls Try.prog 66 #[.agg #[.int .i64 r.day, .int .i64 r.minute, .int .i64 r.low, .int .i64 r.high], .pointer (some ⟨PB, 0, none⟩)] w (Gives w (.bool (decide (r.day = x.day) && decide (r.minute = x.minute)))) := by
  have hb0 : Below w.heap.size w (w.alloc (.cells #[.int .i64 r.day, .int .i64 r.minute, .int .i64 r.low, .int .i64 r.high] 70)) := (Below.refl _ _).alloc (Nat.le_refl _) _
  have hP0 := (Below.heap_alloc w (.cells #[.int .i64 r.day, .int .i64 r.minute, .int .i64 r.low, .int .i64 r.high] 70) PB (Array.getElem?_eq_some_iff.1 hP).1).trans hP
  have hne : PB ≠ w.heap.size := by have := (Array.getElem?_eq_some_iff.1 hP).1; omega
  have pq := box_cells hP0
  have p0 := pq 0
  have p1 := pq 1
  have p2 := pq 2
  have p3 := pq 3
  have p4 := pq 4
  simp only [List.getElem?_toArray, List.getElem?_cons_zero, List.getElem?_cons_succ] at p0 p1 p2 p3 p4
  clear pq
  clear hP hP0
  by_cases e1 : r.day = x.day
  rotate_left
  · have b1 : (r.day == x.day) = false := by simpa using e1
    rw [decide_eq_false e1, Bool.false_and]
    clear e1
    go_enter Try.func66, Try.ntmps66
    go_wp2
    go_ret
    exact ⟨rfl, hb0⟩
  · have b1 : (r.day == x.day) = true := by simp [e1]
    have b2 : (r.minute == x.minute) = decide (r.minute = x.minute) := by by_cases h : r.minute = x.minute <;> simp [h]
    rw [decide_eq_true e1, Bool.true_and]
    clear e1
    go_enter Try.func66, Try.ntmps66
    go_wp2
    go_ret
    exact ⟨rfl, hb0⟩
theorem begins_val (x : Tk) (r : Rd) (PB : Nat) (w : World) (hP : w.heap[PB]? = some (.cells #[.int .u8 (x.kind : Int), .int .i64 x.low, .int .i64 x.high, .int .i64 x.day, .int .i64 x.minute] 89 (0, 0))) : CallsVal Try.prog (.func (.func 66) #[] #[.pointer (some ⟨PB, 0, none⟩)]) #[.agg #[.int .i64 r.day, .int .i64 r.minute, .int .i64 r.low, .int .i64 r.high]] w (Gives w (.bool (decide (r.day = x.day) && decide (r.minute = x.minute)))) :=
  ⟨66, _, by kernel_rfl, begins_any x r PB w hP⟩
set_option maxRecDepth 100000 in
theorem inner_any (t : Tar) (a b c : Value) (x : Tk) (r : Rd) (TB QB : Nat) (w : World) (hT : w.heap[TB]? = some (.cells #[.int .i64 t.zones, a, b, c, .int .i64 t.window] 32 (0, 0))) (hQ : w.heap[QB]? = some (.cells #[.int .i64 r.day, .int .i64 r.minute, .int .i64 r.low, .int .i64 r.high] 70 (0, 0))) (hk : x.kind < 256) (hm : 0 ≤ x.minute ∧ x.minute ≤ 1439) (hw : 0 ≤ t.window ∧ t.window ≤ 1440) :
    Calls Try.prog 70 #[.agg #[.int .u8 (x.kind : Int), .int .i64 x.low, .int .i64 x.high, .int .i64 x.day, .int .i64 x.minute], .pointer (some ⟨TB, 0, none⟩), .pointer (some ⟨QB, 0, none⟩)] w (Gives w (.bool (covB t x r))) := by
  have hb0 : Below w.heap.size w (w.alloc (.cells #[.int .u8 (x.kind : Int), .int .i64 x.low, .int .i64 x.high, .int .i64 x.day, .int .i64 x.minute] 89)) := (Below.refl _ _).alloc (Nat.le_refl _) _
  have hT0 := (Below.heap_alloc w (.cells #[.int .u8 (x.kind : Int), .int .i64 x.low, .int .i64 x.high, .int .i64 x.day, .int .i64 x.minute] 89) TB (Array.getElem?_eq_some_iff.1 hT).1).trans hT
  have hQ0 := (Below.heap_alloc w (.cells #[.int .u8 (x.kind : Int), .int .i64 x.low, .int .i64 x.high, .int .i64 x.day, .int .i64 x.minute] 89) QB (Array.getElem?_eq_some_iff.1 hQ).1).trans hQ
  have hne : TB ≠ w.heap.size := by have := (Array.getElem?_eq_some_iff.1 hT).1; omega
  have hne2 : QB ≠ w.heap.size := by have := (Array.getElem?_eq_some_iff.1 hQ).1; omega
  have aq := box_cells hT0
  have a0 := aq 0
  have a1 := aq 1
  have a2 := aq 2
  have a3 := aq 3
  have a4 := aq 4
  simp only [List.getElem?_toArray, List.getElem?_cons_zero, List.getElem?_cons_succ] at a0 a1 a2 a3 a4
  clear aq
  have qz := box_cells hQ0
  have q0 := qz 0
  have q1 := qz 1
  have q2 := qz 2
  have q3 := qz 3
  simp only [List.getElem?_toArray, List.getElem?_cons_zero, List.getElem?_cons_succ] at q0 q1 q2 q3
  clear qz
  have Hc := Lib.hid (covers_any t a b c x r (w.alloc (.cells #[.int .u8 (x.kind : Int), .int .i64 x.low, .int .i64 x.high, .int .i64 x.day, .int .i64 x.minute] 89)) hk hm hw)
  clear hT hQ hT0 hQ0
  go_enter Try.func70, Try.ntmps70
  go_wp2_with fail
  refine Hc.out.mono ?_
  rintro e w2 ⟨rfl, hb2⟩
  go_wp2
  go_ret
  exact ⟨rfl, hb0.trans (hb2.mono hb0.size)⟩
set_option maxRecDepth 100000 in
theorem paid_any (t : Tar) (a b c z : Value) (X : List Tk) (r : Rd) (TB SB : Nat) (w : World) (hT : w.heap[TB]? = some (.cells #[.int .i64 t.zones, a, b, c, .int .i64 t.window] 32 (0, 0))) (hS : w.heap[SB]? = some (.cells #[z] 34 (0, 0))) (hz : TksAt w z X) (hX : ∀ x ∈ X, tkB t x = true) (ht : tarB t = true) :
    Calls Try.prog 68 #[.agg #[.int .i64 r.day, .int .i64 r.minute, .int .i64 r.low, .int .i64 r.high], .pointer (some ⟨SB, 0, none⟩), .pointer (some ⟨TB, 0, none⟩)] w (Gives w (.bool (paidB t X r))) := by
  obtain ⟨Az, cz, rfl, _, _⟩ := hz.form
  obtain ⟨M, hM⟩ : ∃ M, X.length = M := ⟨_, rfl⟩
  rw [hM] at hz hS
  have hb0 : Below w.heap.size w (w.alloc (.cells #[.int .i64 r.day, .int .i64 r.minute, .int .i64 r.low, .int .i64 r.high] 70)) := (Below.refl _ _).alloc (Nat.le_refl _) _
  have hQ0 := heap_alloc_new w (.cells #[.int .i64 r.day, .int .i64 r.minute, .int .i64 r.low, .int .i64 r.high] 70)
  have hT0 := (Below.heap_alloc w (.cells #[.int .i64 r.day, .int .i64 r.minute, .int .i64 r.low, .int .i64 r.high] 70) TB (Array.getElem?_eq_some_iff.1 hT).1).trans hT
  have hS0 := (Below.heap_alloc w (.cells #[.int .i64 r.day, .int .i64 r.minute, .int .i64 r.low, .int .i64 r.high] 70) SB (Array.getElem?_eq_some_iff.1 hS).1).trans hS
  have hne : SB ≠ w.heap.size := by have := (Array.getElem?_eq_some_iff.1 hS).1; omega
  have hw := tar_pos ht
  have Hc := Lib.hid (containsFunc_tks (.func 70) #[] #[.pointer (some ⟨TB, 0, none⟩), .pointer (some ⟨w.heap.size, 0, none⟩)] (fun x => covB t x r) _ X (w.alloc (.cells #[.int .i64 r.day, .int .i64 r.minute, .int .i64 r.low, .int .i64 r.high] 70)) (hz.below hb0) (fun k x w' hx hb => ⟨70, _, by kernel_rfl, inner_any t a b c x r TB w.heap.size w' ((hb.block _ (Array.getElem?_eq_some_iff.1 hT0).1).trans hT0) ((hb.block _ (Array.getElem?_eq_some_iff.1 hQ0).1).trans hQ0) (tk_minute (hX x (List.mem_of_getElem? hx))).1 (tk_minute (hX x (List.mem_of_getElem? hx))).2 ⟨hw.2.2.1, hw.2.2.2⟩⟩))
  have s0 := box_cells hS0 0
  simp only [List.getElem?_toArray, List.getElem?_cons_zero] at s0
  have hpd : (X.any fun x => covB t x r) = paidB t X r := rfl
  rw [hpd] at Hc
  clear hz hT hS hX ht hM hQ0 hT0 hS0 hw hpd
  go_enter Try.func68, Try.ntmps68
  go_wp2_with fail
  refine Hc.out.mono ?_
  rintro e w2 ⟨rfl, hb2⟩
  go_wp2
  go_ret
  exact ⟨rfl, hb0.trans (hb2.mono hb0.size)⟩
theorem proveB_no {t : Tar} {l : List Rd} {X : List Tk} {p : Int} (h : areTk t l X = false) : proveB t l X p = false := by unfold proveB; rw [h]; simp
set_option maxRecDepth 100000 in
set_option maxHeartbeats 4000000 in
theorem ProveTickets_any (t : Tar) (a b c v z : Value) (l : List Rd) (X : List Tk) (p : Int) (w : World) (hT : TarAt w a b c t) (hv : RdsAt w v l) (hz : TksAt w z X) (hk : ∀ x ∈ X, x.kind < 256) (hl : l.length ≤ 1000000) : Calls Try.prog 44 #[.agg #[.int .i64 t.zones, a, b, c, .int .i64 t.window], v, z, .int .i64 p] w (Gives w (.bool (proveB t l X p))) := by
  obtain ⟨Av, cv, rfl, _, _⟩ := hv.form
  obtain ⟨Az, cz, rfl, _, _⟩ := hz.form
  obtain ⟨N, hN⟩ : ∃ N, l.length = N := ⟨_, rfl⟩
  obtain ⟨M, hM⟩ : ∃ M, X.length = M := ⟨_, rfl⟩
  rw [hN] at hv hl ⊢
  rw [hM] at hz ⊢
  have HN := Lib.hid hN
  have HM := Lib.hid hM
  have Hv := Lib.hid hv
  have Hz := Lib.hid hz
  have HT := Lib.hid hT
  have Hk := Lib.hid hk
  obtain ⟨E, hE⟩ : ∃ E, proveB t l X p = E := ⟨_, rfl⟩
  rw [hE]
  have fin : ∀ (q : Bool) (W : World), proveB t l X p = q → Below w.heap.size w W → Gives w (.bool E) (.returned (.bool q)) W := fun q W h hb => gives_bool (h.symm.trans hE) hb
  have Fin := Lib.hid fin
  clear hv hz hT hk hN hM hE fin
  go_enter Try.func44, Try.ntmps44
  go_upto_region 1 with (fail)
  refine wp_name (fun W => Below w.heap.size w W ∧ W.heap[w.heap.size]? = some (.cells #[.int .i64 t.zones, a, b, c, .int .i64 t.window] 32 (0, 0)) ∧ W.heap[w.heap.size + 1]? = some (.cells #[.slice Az M cz] 34 (0, 0))) ⟨two_below w _ _, (Below.heap_alloc _ _ _ (by simp)).trans (heap_alloc_new w _), heap_alloc2_new w _ _⟩ (fun W0 hW => ?_)
  obtain ⟨hb0, hx0, hs0⟩ := hW
  have hTS : w.heap.size ≠ w.heap.size + 1 := by omega
  generalize w.heap.size + 1 = SB at *
  have HB0 := Lib.hid hb0
  have HX0 := Lib.hid hx0
  have HS0 := Lib.hid hs0
  clear hb0 hs0
  have aq := box_cells hx0
  have a0 := aq 0
  have a1 := aq 1
  have a2 := aq 2
  have a3 := aq 3
  have a4 := aq 4
  simp only [List.getElem?_toArray, List.getElem?_cons_zero, List.getElem?_cons_succ] at a0 a1 a2 a3 a4
  clear aq
  clear hx0
  go_wp2_with fail
  refine (check_any t a b c _ l W0 (HT.out.below HB0.out) (Hv.out.below HB0.out) (by have := HN.out; omega)).mono ?_
  rintro e w1 ⟨hb1, hbad, hgood⟩
  have HB1 := Lib.hid (HB0.out.trans (hb1.mono HB0.out.size))
  have HX1 := Lib.hid ((hb1.block _ (Array.getElem?_eq_some_iff.1 HX0.out).1).trans HX0.out)
  have HS1 := Lib.hid ((hb1.block _ (Array.getElem?_eq_some_iff.1 HS0.out).1).trans HS0.out)
  clear a0 a1 a2 a3 a4 hb1
  by_cases h0 : ridesF t l = 0
  rotate_left
  · have hbb := hbad h0
    subst hbb
    have hd : (ridesF t l != 0) = true := by simpa using h0
    have hf := Lib.hid (show proveB t l X p = false by unfold proveB; rw [decide_eq_false h0]; rfl)
    clear hbad hgood h0
    generalize ridesF t l = F at *
    go_wp2
    go_ret
    exact Fin.out _ _ hf.out HB1.out
  obtain ⟨Ao, co, rfl, hro⟩ := hgood h0
  have H0 := Lib.hid h0
  obtain ⟨o, ho⟩ : ∃ o, onceL l = o := ⟨_, rfl⟩
  rw [ho] at hro ⊢
  have Ho := Lib.hid ho
  obtain ⟨n, hn⟩ : ∃ n, o.length = n := ⟨_, rfl⟩
  rw [hn] at hro ⊢
  have Hn := Lib.hid hn
  have Hro := Lib.hid hro
  have ht := (ridesF_all h0).1
  have Ht := Lib.hid ht
  have s0 := box_cells HS1.out 0
  simp only [List.getElem?_toArray, List.getElem?_cons_zero] at s0
  clear hbad hgood h0 ho hro ht hn
  by_cases h30 : 30 < M
  · have i30 : (30 : Int) < (M : Int) := by omega
    have hf := Lib.hid (show proveB t l X p = false by unfold proveB; rw [decide_eq_false (show ¬ X.length ≤ 30 by have := HM.out; omega)]; simp)
    clear h30
    go_wp2
    go_ret
    exact Fin.out _ _ hf.out HB1.out
  have i30 : ¬ (30 : Int) < (M : Int) := by omega
  have hM30 : M ≤ 30 := by omega
  clear h30
  have aq := box_cells HX1.out
  have a0 := aq 0
  have a1 := aq 1
  have a2 := aq 2
  have a3 := aq 3
  have a4 := aq 4
  simp only [List.getElem?_toArray, List.getElem?_cons_zero, List.getElem?_cons_succ] at a0 a1 a2 a3 a4
  clear aq
  go_wp2_with fail
  refine (allTicket_any t a b c _ X w1 (Hz.out.below HB1.out) Hk.out).mono ?_
  rintro e w2 ⟨rfl, hb2⟩
  have HB2 := Lib.hid (HB1.out.trans (hb2.mono HB1.out.size))
  have HX2 := Lib.hid ((hb2.block _ (Array.getElem?_eq_some_iff.1 HX1.out).1).trans HX1.out)
  have HS2 := Lib.hid ((hb2.block _ (Array.getElem?_eq_some_iff.1 HS1.out).1).trans HS1.out)
  have Hro2 := Lib.hid (Hro.out.below hb2)
  clear a0 a1 a2 a3 a4 s0 hb2
  cases hall : X.all (tkB t) with
  | false =>
    have hf := Lib.hid (show proveB t l X p = false by
      obtain ⟨x, hx, hxb⟩ := List.all_eq_false.1 hall
      exact proveB_no (areTk_no1 hx (by simpa using hxb)))
    clear hall
    go_wp2
    go_ret
    exact Fin.out _ _ hf.out HB2.out
  | true =>
    have hX : ∀ x ∈ X, tkB t x = true := List.all_eq_true.1 hall
    have HX := Lib.hid hX
    have s0 := box_cells HS2.out 0
    simp only [List.getElem?_toArray, List.getElem?_cons_zero] at s0
    clear hall hX
    obtain ⟨W3, hW3⟩ : ∃ W3, w2 = W3 := ⟨_, rfl⟩
    rw [hW3] at HB2 HX2 HS2 Hro2 s0 ⊢
    clear hW3
    go_wp2
    clear s0
    go_loopw [11, 38] (fun q s wr => ∃ k : Nat, k ≤ M ∧ q = .int .i64 (sumT t (X.take k)) ∧ s = .int .i64 k ∧ Below W3.heap.size W3 wr ∧ ∀ (j : Nat) (x : Tk), j < k → X[j]? = some x → startB l x = true) (fun q s wr => M - (intOf s).toNat)
    case atStart => exact ⟨0, by omega, rfl, rfl, Below.refl _ _, by intro j x h; omega⟩
    case round =>
      obtain ⟨k, hk, rfl, rfl, hbr, hal⟩ := hrel
      have Hbr := Lib.hid hbr
      have Hal := Lib.hid hal
      clear hal
      by_cases hlt : k < M
      · obtain ⟨b3, o3, x, rfl, hx, d0, d1, d2, d3, d4, _⟩ := ((Hz.out.below HB2.out).below hbr).at_ (n := M) (k := k) (by have := HM.out; omega)
        have ik : (k : Int) < (M : Int) := by omega
        have hxm := List.mem_of_getElem? hx
        have htk := HX.out x hxm
        have hsu := sumT_take (t := t) hx
        have hpx := price_bd Ht.out x
        have hsb := sumT_bd3 Ht.out (X.take k)
        have hsl : ((X.take k).length : Int) ≤ 30 := by rw [List.length_take]; omega
        obtain ⟨ss, hss⟩ : ∃ ss, sumT t (X.take k) = ss := ⟨_, rfl⟩
        obtain ⟨px, hp⟩ : ∃ px, priceT t x = px := ⟨_, rfl⟩
        rw [hss] at hsu hsb ⊢
        rw [hp] at hsu hpx
        have wq : IntKind.i64.wrap (ss + px) = ss + px := IntWalk.i64_in _ (by omega)
        have Hx := Lib.hid hx
        have Htk := Lib.hid htk
        have Hsu := Lib.hid hsu
        have Hp := Lib.hid hp
        clear hx hxm htk hsu hpx hsb hsl hss hp
        go_upto_region 8 with (fail)
        refine wp_name (fun V => Below wr.heap.size wr V ∧ V.heap[wr.heap.size]? = some (.cells #[.int .u8 (x.kind : Int), .int .i64 x.low, .int .i64 x.high, .int .i64 x.day, .int .i64 x.minute] 89 (0, 0))) ⟨(Below.refl _ _).alloc (Nat.le_refl _) _, heap_alloc_new wr _⟩ (fun V hV => ?_)
        obtain ⟨hbV, hpV⟩ := hV
        have HBV := Lib.hid (hbr.trans (hbV.mono hbr.size))
        have HPV := Lib.hid hpV
        obtain ⟨PB, hPB⟩ : ∃ PB, wr.heap.size = PB := ⟨_, rfl⟩
        rw [hPB] at HPV ⊢
        have HXV := Lib.hid ((HBV.out.block _ (Array.getElem?_eq_some_iff.1 HX2.out).1).trans HX2.out)
        clear d0 d1 d2 d3 d4 hbV hpV hPB hbr
        have aq := box_cells HXV.out
        have a0 := aq 0
        have a1 := aq 1
        have a2 := aq 2
        have a3 := aq 3
        have a4 := aq 4
        simp only [List.getElem?_toArray, List.getElem?_cons_zero, List.getElem?_cons_succ] at a0 a1 a2 a3 a4
        clear aq
        have pq := box_cells HPV.out
        have p0 := pq 0
        have p1 := pq 1
        have p2 := pq 2
        have p3 := pq 3
        have p4 := pq 4
        simp only [List.getElem?_toArray, List.getElem?_cons_zero, List.getElem?_cons_succ] at p0 p1 p2 p3 p4
        clear pq
        go_wp2_with fail
        refine (price_any t a b c x V ((HT.out.below HB2.out).below HBV.out) Ht.out Htk.out).mono ?_
        rintro e w4 ⟨rfl, hb4⟩
        rw [Hp.out]
        have HB4 := Lib.hid (HBV.out.trans (hb4.mono HBV.out.size))
        have HP4 := Lib.hid ((hb4.block _ (Array.getElem?_eq_some_iff.1 HPV.out).1).trans HPV.out)
        clear a0 a1 a2 a3 a4 p0 p1 p2 p3 p4 hb4
        have pq := box_cells HP4.out
        have p0 := pq 0
        have p1 := pq 1
        have p2 := pq 2
        have p3 := pq 3
        have p4 := pq 4
        simp only [List.getElem?_toArray, List.getElem?_cons_zero, List.getElem?_cons_succ] at p0 p1 p2 p3 p4
        clear pq
        by_cases k0 : x.kind = 0
        rotate_left
        · have j0 : ((x.kind : Int) == 0) = false := by simp; omega
          have hst : startB l x = true := by unfold startB; rw [decide_eq_true (show x.kind ≠ 0 from k0)]; rfl
          have Hst := Lib.hid hst
          clear hst k0
          go_wp2
          go_roundw
          case rel =>
            refine ⟨k + 1, by omega, by rw [Hsu.out], by go_num, HB4.out, fun j y hj hy => ?_⟩
            by_cases e : j = k
            · subst e
              rw [Hx.out] at hy
              cases hy
              exact Hst.out
            · exact Hal.out j y (by omega) hy
          case measure => simp [intOf]; omega
        · have j0 : ((x.kind : Int) == 0) = true := by simp [k0]
          have hse : startB l x = (o.any fun r => decide (r.day = x.day) && decide (r.minute = x.minute)) := by
            rw [← startB_once, Ho.out]
            unfold startB
            rw [decide_eq_false (show ¬ x.kind ≠ 0 by omega), Bool.false_or]
          have Hse := Lib.hid hse
          clear hse k0
          go_wp2_with fail
          refine (containsFunc_rds (.func 66) #[] #[.pointer (some ⟨PB, 0, none⟩)] (fun r => decide (r.day = x.day) && decide (r.minute = x.minute)) _ o w4 (Hro2.out.below HB4.out) (fun j r w' hr hb => begins_val x r PB w' ((hb.block _ (Array.getElem?_eq_some_iff.1 HP4.out).1).trans HP4.out))).mono ?_
          rintro e w5 ⟨rfl, hb5⟩
          rw [← Hse.out]
          have HB5 := Lib.hid (HB4.out.trans (hb5.mono HB4.out.size))
          clear p0 p1 p2 p3 p4 hb5
          cases hst : startB l x with
          | false =>
            have hf := Lib.hid (proveB_no (p := p) (areTk_no2 (t := t) (List.mem_of_getElem? Hx.out) hst))
            clear hst
            go_wp2
            go_ret
            exact Fin.out _ _ hf.out (HB2.out.trans (HB5.out.mono HB2.out.size))
          | true =>
            have Hst := Lib.hid hst
            clear hst
            go_wp2
            go_roundw
            case rel =>
              refine ⟨k + 1, by omega, by rw [Hsu.out], by go_num, HB5.out, fun j y hj hy => ?_⟩
              by_cases e : j = k
              · subst e
                rw [Hx.out] at hy
                cases hy
                exact Hst.out
              · exact Hal.out j y (by omega) hy
            case measure => simp [intOf]; omega
      · have ik : ¬ (k : Int) < (M : Int) := by omega
        have hke : X.take k = X := List.take_of_length_le (by have := HM.out; omega)
        rw [hke]
        have hst : ∀ x ∈ X, startB l x = true := fun x hx => by
          obtain ⟨j, hj⟩ := List.getElem?_of_mem hx
          exact Hal.out j x (by have := (List.getElem?_eq_some_iff.1 hj).1; have := HM.out; omega) hj
        have hpe : proveB t l X p = (o.all (paidB t X) && decide (sumT t X ≤ p)) := by
          unfold proveB
          rw [decide_eq_true H0.out, decide_eq_true (show X.length ≤ 30 by have := HM.out; omega), Bool.true_and, Bool.true_and]
          congr 1
          rw [← areTk_once, Ho.out]
          unfold areTk
          rw [List.all_eq_true.2 (fun x hx => by rw [HX.out x hx, ← Ho.out, startB_once, hst x hx]; rfl), Bool.true_and]
        have Hpe := Lib.hid hpe
        have HSr := Lib.hid ((hbr.block _ (Array.getElem?_eq_some_iff.1 HS2.out).1).trans HS2.out)
        have HXr := Lib.hid ((hbr.block _ (Array.getElem?_eq_some_iff.1 HX2.out).1).trans HX2.out)
        have Hzr := Lib.hid ((Hz.out.below HB2.out).below hbr)
        have Hror := Lib.hid (Hro2.out.below hbr)
        obtain ⟨sx, hsx⟩ : ∃ sx, sumT t X = sx := ⟨_, rfl⟩
        rw [hsx]
        have Hsx := Lib.hid hsx
        clear hke hst hpe hbr hsx Hal
        go_wp2_with fail
        refine (all_rds (.func 68) #[] #[.pointer (some ⟨SB, 0, none⟩), .pointer (some ⟨w.heap.size, 0, none⟩)] (paidB t X) _ o wr Hror.out (fun j r w' hr hb => ⟨68, _, by kernel_rfl, paid_any t a b c _ X r w.heap.size SB w' ((hb.block _ (Array.getElem?_eq_some_iff.1 HXr.out).1).trans HXr.out) ((hb.block _ (Array.getElem?_eq_some_iff.1 HSr.out).1).trans HSr.out) (Hzr.out.below hb) HX.out Ht.out⟩)).mono ?_
        rintro e w6 ⟨rfl, hb6⟩
        have HB6 := Lib.hid (HB2.out.trans ((Hbr.out.trans (hb6.mono Hbr.out.size)).mono HB2.out.size))
        clear hb6
        cases hpa : o.all (paidB t X) with
        | false =>
          have hf := Lib.hid (show proveB t l X p = false by rw [Hpe.out, hpa]; rfl)
          clear hpa
          go_wp2
          go_ret
          exact Fin.out _ _ hf.out HB6.out
        | true =>
          have hf := Lib.hid (show proveB t l X p = decide (sx ≤ p) by rw [Hpe.out, hpa, Hsx.out]; rfl)
          clear hpa
          go_wp2
          go_ret
          exact Fin.out _ _ hf.out HB6.out
end Go.Proofs.Ytmbkpfkkohpnkaa
