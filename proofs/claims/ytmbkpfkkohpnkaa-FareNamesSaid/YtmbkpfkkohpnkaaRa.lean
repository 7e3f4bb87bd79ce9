import Derived.Test.YtmbkpfkkohpnkaaPr
set_option linter.unusedVariables false
set_option linter.unusedSimpArgs false
namespace Go.Proofs.Ytmbkpfkkohpnkaa
open Go Go.Proofs Go.RowKit

/-! ### The reference: tariffs, rides, tickets -/
theorem prices_false {l : List Int} {n x : Int} (hx : x ∈ l) (h : inB x 0 10000 = false) : pricesB l n = false := by
  unfold pricesB
  have : (l.all fun x => inB x 0 10000) = false := by
    rw [List.all_eq_false]
    exact ⟨x, hx, by simp [h]⟩
  rw [this, Bool.and_false]
set_option maxRecDepth 100000 in
theorem prices_ref (v : Value) (l : List Int) (n : Int) (w : World) (hv : NumsAt .i64 w v l) :
    Calls Try.prog 81 #[v, .int .i64 n] w (Same w (.bool (pricesB l n))) := by
  obtain ⟨A, c, rfl, hc, hm⟩ := hv.form
  have Hv := Lib.hid hv
  clear hv
  go_enter Try.func81, Try.ntmps81
  go_wp2
  go_loop [5] (fun s => ∃ k : Nat, k ≤ l.length ∧ s = .int .i64 k ∧ ∀ (j : Nat) (x : Int), j < k → l[j]? = some x → inB x 0 10000 = true) (fun s => l.length - (intOf s).toNat)
  case atStart => exact ⟨0, by omega, rfl, by intro j x h; omega⟩
  case round =>
    obtain ⟨k, hk, rfl, hall⟩ := hrel
    have Hall := Lib.hid hall
    clear hall
    by_cases hlt : k < l.length
    · obtain ⟨b, o, x, e, hx, dx, _⟩ := Hv.out.at_ (k := k) hlt
      cases e
      have i0 : (k : Int) < (l.length : Int) := by omega
      cases hin : inB x 0 10000 with
      | false =>
        have Hf := Lib.hid (prices_false (n := n) (List.mem_of_getElem? hx) hin)
        have Hin := Lib.hid hin
        clear hin hx
        go_wp2_with (go_at_call 41; refine (Same.to Hin.out (In_same _ _ _ _)).mono ?_; rintro e w2 ⟨rfl, rfl⟩)
        go_ret
        exact ⟨by rw [Hf.out]; rfl, rfl⟩
      | true =>
        have Hx := Lib.hid hx
        have Hin := Lib.hid hin
        clear hin hx
        go_wp2_with (go_at_call 41; refine (Same.to Hin.out (In_same _ _ _ _)).mono ?_; rintro e w2 ⟨rfl, rfl⟩)
        go_round
        case rel =>
          refine ⟨k + 1, by omega, by go_num, fun j y hj hy => ?_⟩
          by_cases e : j = k
          · subst e
            rw [Hx.out] at hy
            cases hy
            exact Hin.out
          · exact Hall.out j y (by omega) hy
        case measure => simp [intOf]; omega
    · obtain rfl : k = l.length := by omega
      have h7 : (l.all fun x => inB x 0 10000) = true := List.all_eq_true.2 fun x hx => by
        obtain ⟨i, hi⟩ := List.getElem?_of_mem hx
        exact Hall.out i x (List.getElem?_eq_some_iff.1 hi).1 hi
      have hp : pricesB l n = ((l.length : Int) == n) := by
        unfold pricesB
        rw [h7, Bool.and_true]
        by_cases h : (l.length : Int) = n <;> simp [h]
      have Hp := Lib.hid hp
      clear h7 hp
      go_wp2
      go_ret
      exact ⟨by rw [Hp.out]; rfl, rfl⟩
set_option maxRecDepth 100000 in
set_option maxHeartbeats 1000000 in
theorem Fault_ref (t : Tar) (a b c : Value) (w : World) (hT : TarAt w a b c t) : Calls Try.prog 53 #[.agg #[.int .i64 t.zones, a, b, c, .int .i64 t.window]] w (Gives w (.int .i64 (faultT t))) := by
  have hb0 : Below w.heap.size w (w.alloc (.cells #[.int .i64 t.zones, a, b, c, .int .i64 t.window] 24)) := (Below.refl _ _).alloc (Nat.le_refl _) _
  have HT := Lib.hid hT
  clear hT
  unfold faultT tarB
  cases h1 : inB t.zones 1 4 with
  | false =>
    have H1 := Lib.hid h1
    clear h1
    simp only [Bool.false_and, Bool.and_false, Bool.true_and, Bool.and_true, Bool.false_eq_true, if_false]
    go_enter Try.func53, Try.ntmps53
    go_wp2_with fail
    refine (Same.to H1.out (In_same t.zones 1 4 _)).mono ?_
    rintro e w1 ⟨rfl, rfl⟩
    go_wp2
    go_ret
    exact ⟨rfl, hb0⟩
  | true =>
    have H1 := Lib.hid h1
    clear h1
    cases h2 : inB t.window 0 1440 with
    | false =>
      have H2 := Lib.hid h2
      clear h2
      simp only [Bool.false_and, Bool.and_false, Bool.true_and, Bool.and_true, Bool.false_eq_true, if_false]
      go_enter Try.func53, Try.ntmps53
      go_wp2_with fail
      refine (Same.to H1.out (In_same t.zones 1 4 _)).mono ?_
      rintro e w1 ⟨rfl, rfl⟩
      go_wp2_with fail
      refine (Same.to H2.out (In_same t.window 0 1440 _)).mono ?_
      rintro e w2 ⟨rfl, rfl⟩
      go_wp2
      go_ret
      exact ⟨rfl, hb0⟩
    | true =>
      have H2 := Lib.hid h2
      clear h2
      cases h3 : pricesB t.singles t.zones with
      | false =>
        have H3 := Lib.hid h3
        clear h3
        simp only [Bool.false_and, Bool.and_false, Bool.true_and, Bool.and_true, Bool.false_eq_true, if_false]
        go_enter Try.func53, Try.ntmps53
        go_wp2_with fail
        refine (Same.to H1.out (In_same t.zones 1 4 _)).mono ?_
        rintro e w1 ⟨rfl, rfl⟩
        go_wp2_with fail
        refine (Same.to H2.out (In_same t.window 0 1440 _)).mono ?_
        rintro e w2 ⟨rfl, rfl⟩
        go_wp2_with fail
        refine (Same.to H3.out (prices_ref _ _ t.zones _ (HT.out.below hb0).singles)).mono ?_
        rintro e w3 ⟨rfl, rfl⟩
        go_wp2
        go_ret
        exact ⟨rfl, hb0⟩
      | true =>
        have H3 := Lib.hid h3
        clear h3
        cases h4 : pricesB t.days t.zones with
        | false =>
          have H4 := Lib.hid h4
          clear h4
          simp only [Bool.false_and, Bool.and_false, Bool.true_and, Bool.and_true, Bool.false_eq_true, if_false]
          go_enter Try.func53, Try.ntmps53
          go_wp2_with fail
          refine (Same.to H1.out (In_same t.zones 1 4 _)).mono ?_
          rintro e w1 ⟨rfl, rfl⟩
          go_wp2_with fail
          refine (Same.to H2.out (In_same t.window 0 1440 _)).mono ?_
          rintro e w2 ⟨rfl, rfl⟩
          go_wp2_with fail
          refine (Same.to H3.out (prices_ref _ _ t.zones _ (HT.out.below hb0).singles)).mono ?_
          rintro e w3 ⟨rfl, rfl⟩
          go_wp2_with fail
          refine (Same.to H4.out (prices_ref _ _ t.zones _ (HT.out.below hb0).days)).mono ?_
          rintro e w4 ⟨rfl, rfl⟩
          go_wp2
          go_ret
          exact ⟨rfl, hb0⟩
        | true =>
          have H4 := Lib.hid h4
          clear h4
          cases h5 : pricesB t.weeks t.zones with
          | false =>
            have H5 := Lib.hid h5
            clear h5
            simp only [Bool.false_and, Bool.and_false, Bool.true_and, Bool.and_true, Bool.false_eq_true, if_false]
            go_enter Try.func53, Try.ntmps53
            go_wp2_with fail
            refine (Same.to H1.out (In_same t.zones 1 4 _)).mono ?_
            rintro e w1 ⟨rfl, rfl⟩
            go_wp2_with fail
            refine (Same.to H2.out (In_same t.window 0 1440 _)).mono ?_
            rintro e w2 ⟨rfl, rfl⟩
            go_wp2_with fail
            refine (Same.to H3.out (prices_ref _ _ t.zones _ (HT.out.below hb0).singles)).mono ?_
            rintro e w3 ⟨rfl, rfl⟩
            go_wp2_with fail
            refine (Same.to H4.out (prices_ref _ _ t.zones _ (HT.out.below hb0).days)).mono ?_
            rintro e w4 ⟨rfl, rfl⟩
            go_wp2_with fail
            refine (Same.to H5.out (prices_ref _ _ t.zones _ (HT.out.below hb0).weeks)).mono ?_
            rintro e w5 ⟨rfl, rfl⟩
            go_wp2
            go_ret
            exact ⟨rfl, hb0⟩
          | true =>
            have H5 := Lib.hid h5
            clear h5
            simp only [Bool.true_and, if_true]
            go_enter Try.func53, Try.ntmps53
            go_wp2_with fail
            refine (Same.to H1.out (In_same t.zones 1 4 _)).mono ?_
            rintro e w1 ⟨rfl, rfl⟩
            go_wp2_with fail
            refine (Same.to H2.out (In_same t.window 0 1440 _)).mono ?_
            rintro e w2 ⟨rfl, rfl⟩
            go_wp2_with fail
            refine (Same.to H3.out (prices_ref _ _ t.zones _ (HT.out.below hb0).singles)).mono ?_
            rintro e w3 ⟨rfl, rfl⟩
            go_wp2_with fail
            refine (Same.to H4.out (prices_ref _ _ t.zones _ (HT.out.below hb0).days)).mono ?_
            rintro e w4 ⟨rfl, rfl⟩
            go_wp2_with fail
            refine (Same.to H5.out (prices_ref _ _ t.zones _ (HT.out.below hb0).weeks)).mono ?_
            rintro e w5 ⟨rfl, rfl⟩
            go_wp2
            go_ret
            exact ⟨rfl, hb0⟩
set_option maxRecDepth 100000 in
set_option maxHeartbeats 1000000 in
theorem IsRide_ref (t : Tar) (a b c : Value) (r : Rd) (w : World) : Calls Try.prog 73 #[.agg #[.int .i64 t.zones, a, b, c, .int .i64 t.window], .agg #[.int .i64 r.day, .int .i64 r.minute, .int .i64 r.low, .int .i64 r.high]] w (Gives w (.bool (rideB t r))) := by
  have hb0 : Below w.heap.size w ((w.alloc (.cells #[.int .i64 t.zones, a, b, c, .int .i64 t.window] 24)).alloc (.cells #[.int .i64 r.day, .int .i64 r.minute, .int .i64 r.low, .int .i64 r.high] 68)) := two_below w _ _
  unfold rideB zonesB
  cases h1 : inB r.day 0 6 with
  | false =>
    have H1 := Lib.hid h1
    clear h1
    simp only [Bool.false_and, Bool.and_false, Bool.true_and, Bool.and_true, Bool.false_eq_true, if_false]
    go_enter Try.func73, Try.ntmps73
    go_wp2_with fail
    refine (Same.to H1.out (In_same r.day 0 6 _)).mono ?_
    rintro e w1 ⟨rfl, rfl⟩
    go_wp2
    go_ret
    exact ⟨rfl, hb0⟩
  | true =>
    have H1 := Lib.hid h1
    clear h1
    cases h2 : inB r.minute 0 1439 with
    | false =>
      have H2 := Lib.hid h2
      clear h2
      simp only [Bool.false_and, Bool.and_false, Bool.true_and, Bool.and_true, Bool.false_eq_true, if_false]
      go_enter Try.func73, Try.ntmps73
      go_wp2_with fail
      refine (Same.to H1.out (In_same r.day 0 6 _)).mono ?_
      rintro e w1 ⟨rfl, rfl⟩
      go_wp2_with fail
      refine (Same.to H2.out (In_same r.minute 0 1439 _)).mono ?_
      rintro e w2 ⟨rfl, rfl⟩
      go_wp2
      go_ret
      exact ⟨rfl, hb0⟩
    | true =>
      have H2 := Lib.hid h2
      clear h2
      cases h3 : inB r.low 0 r.high with
      | false =>
        have H3 := Lib.hid h3
        clear h3
        simp only [Bool.false_and, Bool.and_false, Bool.true_and, Bool.and_true, Bool.false_eq_true, if_false]
        go_enter Try.func73, Try.ntmps73
        go_wp2_with fail
        refine (Same.to H1.out (In_same r.day 0 6 _)).mono ?_
        rintro e w1 ⟨rfl, rfl⟩
        go_wp2_with fail
        refine (Same.to H2.out (In_same r.minute 0 1439 _)).mono ?_
        rintro e w2 ⟨rfl, rfl⟩
        go_wp2_with fail
        refine (Same.to H3.out (In_same r.low 0 r.high _)).mono ?_
        rintro e w3 ⟨rfl, rfl⟩
        go_wp2
        go_ret
        exact ⟨rfl, hb0⟩
      | true =>
        have H3 := Lib.hid h3
        clear h3
        simp only [Bool.true_and]
        go_enter Try.func73, Try.ntmps73
        go_wp2_with fail
        refine (Same.to H1.out (In_same r.day 0 6 _)).mono ?_
        rintro e w1 ⟨rfl, rfl⟩
        go_wp2_with fail
        refine (Same.to H2.out (In_same r.minute 0 1439 _)).mono ?_
        rintro e w2 ⟨rfl, rfl⟩
        go_wp2_with fail
        refine (Same.to H3.out (In_same r.low 0 r.high _)).mono ?_
        rintro e w3 ⟨rfl, rfl⟩
        go_wp2
        go_ret
        exact ⟨rfl, hb0⟩
def thinB (t : Tar) : Bool := decide (t.singles.length ≤ 8) && (decide (t.days.length ≤ 8) && decide (t.weeks.length ≤ 8))
set_option maxRecDepth 100000 in
theorem Thin_any (t : Tar) (a b c : Value) (w : World) (hT : TarAt w a b c t) : Calls Try.prog 15 #[.agg #[.int .i64 t.zones, a, b, c, .int .i64 t.window]] w (Gives w (.bool (thinB t))) := by
  have hb0 : Below w.heap.size w (w.alloc (.cells #[.int .i64 t.zones, a, b, c, .int .i64 t.window] 24)) := (Below.refl _ _).alloc (Nat.le_refl _) _
  obtain ⟨A1, c1, rfl, _⟩ := hT.singles.form
  obtain ⟨A2, c2, rfl, _⟩ := hT.days.form
  obtain ⟨A3, c3, rfl, _⟩ := hT.weeks.form
  clear hT
  unfold thinB
  by_cases h0 : t.singles.length ≤ 8
  rotate_left
  · have i0 : ¬ (t.singles.length : Int) ≤ 8 := by omega
    simp only [h0, decide_false, decide_true, Bool.false_and, Bool.true_and, Bool.and_false]
    clear h0
    go_enter Try.func15, Try.ntmps15
    go_wp2
    go_ret
    exact ⟨rfl, hb0⟩
  have i0 : (t.singles.length : Int) ≤ 8 := by omega
  simp only [h0, decide_true, Bool.true_and]
  clear h0
  by_cases h1 : t.days.length ≤ 8
  rotate_left
  · have i1 : ¬ (t.days.length : Int) ≤ 8 := by omega
    simp only [h1, decide_false, decide_true, Bool.false_and, Bool.true_and, Bool.and_false]
    clear h1
    go_enter Try.func15, Try.ntmps15
    go_wp2
    go_ret
    exact ⟨rfl, hb0⟩
  have i1 : (t.days.length : Int) ≤ 8 := by omega
  simp only [h1, decide_true, Bool.true_and]
  clear h1
  by_cases h2 : t.weeks.length ≤ 8
  rotate_left
  · have i2 : ¬ (t.weeks.length : Int) ≤ 8 := by omega
    simp only [h2, decide_false, decide_true, Bool.false_and, Bool.true_and, Bool.and_false]
    clear h2
    go_enter Try.func15, Try.ntmps15
    go_wp2
    go_ret
    exact ⟨rfl, hb0⟩
  have i2 : (t.weeks.length : Int) ≤ 8 := by omega
  simp only [h2, decide_true, Bool.true_and]
  clear h2
  go_enter Try.func15, Try.ntmps15
  go_wp2
  go_ret
  exact ⟨rfl, hb0⟩
set_option maxRecDepth 100000 in
theorem fault_law (t : Tar) (a b c : Value) (w : World) (hT : TarAt w a b c t) : Calls Try.prog 23 #[.agg #[.int .i64 t.zones, a, b, c, .int .i64 t.window]] w (Gives w (.int .i64 (faultT t))) := by
  have hb0 : Below w.heap.size w (w.alloc (.cells #[.int .i64 t.zones, a, b, c, .int .i64 t.window] 24)) := (Below.refl _ _).alloc (Nat.le_refl _) _
  have H := Lib.hid (Fault_ref t a b c _ (hT.below hb0))
  have hx : IntKind.i64.wrap (faultT t) = faultT t := by
    unfold faultT
    split <;> rfl
  clear hT
  generalize hF : faultT t = F at *
  have HF := Lib.hid hF
  clear hF
  go_enter Try.func23, Try.ntmps23
  go_wp2_with fail
  refine H.out.mono ?_
  rintro e w1 ⟨rfl, hb1⟩
  go_wp2
  go_ret
  exact ⟨rfl, hb0.trans (hb1.mono hb0.size)⟩
set_option maxRecDepth 100000 in
set_option maxHeartbeats 1000000 in
theorem Covers_ref (t : Tar) (a b c : Value) (x : Tk) (r : Rd) (w : World) (hk : x.kind < 256) (hm : 0 ≤ x.minute ∧ x.minute ≤ 1439) (hw : 0 ≤ t.window ∧ t.window ≤ 1440) :
    Calls Try.prog 55 #[.agg #[.int .i64 t.zones, a, b, c, .int .i64 t.window], .agg #[.int .u8 (x.kind : Int), .int .i64 x.low, .int .i64 x.high, .int .i64 x.day, .int .i64 x.minute], .agg #[.int .i64 r.day, .int .i64 r.minute, .int .i64 r.low, .int .i64 r.high]] w (Gives w (.bool (covB t x r))) := by
  have hb0 : Below w.heap.size w (((w.alloc (.cells #[.int .i64 t.zones, a, b, c, .int .i64 t.window] 24)).alloc (.cells #[.int .u8 (x.kind : Int), .int .i64 x.low, .int .i64 x.high, .int .i64 x.day, .int .i64 x.minute] 101)).alloc (.cells #[.int .i64 r.day, .int .i64 r.minute, .int .i64 r.low, .int .i64 r.high] 68)) :=
    (((Below.refl _ _).alloc (Nat.le_refl _) _).alloc (by simp) _).alloc (by simp; omega) _
  rw [covB_eq]
  have q : IntKind.i64.wrap (x.minute + t.window) = x.minute + t.window := IntWalk.i64_in _ (by omega)
  clear hm hw
  by_cases h1 : r.low < x.low
  · simp only [h1, decide_true, Bool.true_or, Bool.not_true, Bool.false_and]
    go_enter Try.func55, Try.ntmps55
    go_wp2
    go_ret
    exact ⟨rfl, hb0⟩
  by_cases h2 : x.high < r.high
  · simp only [h2, decide_true, Bool.or_true, Bool.not_true, Bool.false_and]
    go_enter Try.func55, Try.ntmps55
    go_wp2
    go_ret
    exact ⟨rfl, hb0⟩
  simp only [h1, h2, decide_false, Bool.or_false, Bool.not_false, Bool.true_and]
  by_cases k0 : x.kind = 0
  · rw [if_pos k0]
    have j0 : ((x.kind : Int) == 0) = true := by simp [k0]
    clear k0
    by_cases d0 : r.day = x.day
    · have d1 : (r.day == x.day) = true := by simp [d0]
      rw [decide_eq_true d0, Bool.true_and]
      clear d0
      go_enter Try.func55, Try.ntmps55
      go_wp2_with (go_at_call 41; refine (In_same _ _ _ _).mono ?_; rintro e w2 ⟨rfl, rfl⟩)
      go_ret
      exact ⟨rfl, hb0⟩
    · have d1 : (r.day == x.day) = false := by simpa using d0
      rw [decide_eq_false d0, Bool.false_and]
      clear d0
      go_enter Try.func55, Try.ntmps55
      go_wp2
      go_ret
      exact ⟨rfl, hb0⟩
  · rw [if_neg k0]
    have j0 : ((x.kind : Int) == 0) = false := by simp; omega
    clear k0
    by_cases k1 : x.kind = 1
    · rw [if_pos k1]
      have j1 : ((x.kind : Int) == 1) = true := by simp [k1]
      clear k1
      have hd : (r.day == x.day) = decide (r.day = x.day) := by by_cases h : r.day = x.day <;> simp [h]
      go_enter Try.func55, Try.ntmps55
      go_wp2
      go_ret
      exact ⟨rfl, hb0⟩
    · rw [if_neg k1]
      have j1 : ((x.kind : Int) == 1) = false := by simp; omega
      clear k1
      go_enter Try.func55, Try.ntmps55
      go_wp2
      go_ret
      exact ⟨rfl, hb0⟩
theorem not_tk {t : Tar} {x : Tk} (h : ¬ (x.kind ≤ 2 ∧ (0 ≤ x.low ∧ x.low ≤ x.high ∧ x.high < t.zones) ∧ (if x.kind = 0 then (0 ≤ x.day ∧ x.day ≤ 6) ∧ (0 ≤ x.minute ∧ x.minute ≤ 1439) else x.minute = 0 ∧ (x.day = 0 ∨ (x.kind = 1 ∧ (0 ≤ x.day ∧ x.day ≤ 6)))))) : tkB t x = false := by
  rw [← tkB_iff] at h
  simpa using h
theorem inB_false {n lo hi : Int} (h : inB n lo hi = false) : ¬ (lo ≤ n ∧ n ≤ hi) := fun k => by rw [inB_iff.2 k] at h; cases h
set_option maxRecDepth 100000 in
set_option maxHeartbeats 2000000 in
theorem IsTicket_ref (t : Tar) (a b c : Value) (x : Tk) (w : World) (hk : x.kind < 256) : Calls Try.prog 54 #[.agg #[.int .i64 t.zones, a, b, c, .int .i64 t.window], .agg #[.int .u8 (x.kind : Int), .int .i64 x.low, .int .i64 x.high, .int .i64 x.day, .int .i64 x.minute]] w (Gives w (.bool (tkB t x))) := by
  have hb0 : Below w.heap.size w ((w.alloc (.cells #[.int .i64 t.zones, a, b, c, .int .i64 t.window] 24)).alloc (.cells #[.int .u8 (x.kind : Int), .int .i64 x.low, .int .i64 x.high, .int .i64 x.day, .int .i64 x.minute] 101)) := two_below w _ _
  have fin : ∀ (B : Bool) (W : World), tkB t x = B → Below w.heap.size w W → Gives w (.bool (tkB t x)) (.returned (.bool B)) W := fun B W h hb => gives_bool h.symm hb
  have Fin := Lib.hid fin
  clear fin
  by_cases k2 : 2 < x.kind
  · have i2 : (2 : Int) < (x.kind : Int) := by omega
    have hv : tkB t x = false := not_tk (fun h => by omega)
    have Hv := Lib.hid hv
    clear hv
    go_enter Try.func54, Try.ntmps54
    go_wp2
    go_ret
    exact Fin.out _ _ Hv.out hb0
  have i2 : ¬ (2 : Int) < (x.kind : Int) := by omega
  cases h1 : inB x.low 0 x.high with
  | false =>
    have H1 := Lib.hid h1
    have hv : tkB t x = false := not_tk (fun h => inB_false h1 ⟨h.2.1.1, h.2.1.2.1⟩)
    have Hv := Lib.hid hv
    clear hv
    clear h1
    go_enter Try.func54, Try.ntmps54
    go_wp2_with fail
    refine (Same.to H1.out (In_same x.low 0 x.high _)).mono ?_
    rintro e w1 ⟨rfl, rfl⟩
    go_wp2
    go_ret
    exact Fin.out _ _ Hv.out hb0
  | true =>
    have z1 := inB_iff.1 h1
    have H1 := Lib.hid h1
    clear h1
    by_cases z : t.zones ≤ x.high
    · have hv : tkB t x = false := not_tk (fun h => by omega)
      have Hv := Lib.hid hv
      clear hv
      go_enter Try.func54, Try.ntmps54
      go_wp2_with fail
      refine (Same.to H1.out (In_same x.low 0 x.high _)).mono ?_
      rintro e w1 ⟨rfl, rfl⟩
      go_wp2
      go_ret
      exact Fin.out _ _ Hv.out hb0
    have zz : ¬ t.zones ≤ x.high := z
    by_cases k0 : x.kind = 0
    · have j0 : ((x.kind : Int) == 0) = true := by simp [k0]
      cases h2 : inB x.day 0 6 with
      | false =>
        have H2 := Lib.hid h2
        have hv : tkB t x = false := not_tk (fun h => by rw [if_pos k0] at h; exact inB_false h2 h.2.2.1)
        have Hv := Lib.hid hv
        clear hv
        clear h2 k0
        go_enter Try.func54, Try.ntmps54
        go_wp2_with fail
        refine (Same.to H1.out (In_same x.low 0 x.high _)).mono ?_
        rintro e w1 ⟨rfl, rfl⟩
        go_wp2_with fail
        refine (Same.to H2.out (In_same x.day 0 6 _)).mono ?_
        rintro e w1 ⟨rfl, rfl⟩
        go_wp2
        go_ret
        exact Fin.out _ _ Hv.out hb0
      | true =>
        have y2 := inB_iff.1 h2
        have H2 := Lib.hid h2
        clear h2
        cases h3 : inB x.minute 0 1439 with
        | false =>
          have H3 := Lib.hid h3
          have hv : tkB t x = false := not_tk (fun h => by rw [if_pos k0] at h; exact inB_false h3 h.2.2.2)
          have Hv := Lib.hid hv
          clear hv
          clear h3 k0
          go_enter Try.func54, Try.ntmps54
          go_wp2_with fail
          refine (Same.to H1.out (In_same x.low 0 x.high _)).mono ?_
          rintro e w1 ⟨rfl, rfl⟩
          go_wp2_with fail
          refine (Same.to H2.out (In_same x.day 0 6 _)).mono ?_
          rintro e w1 ⟨rfl, rfl⟩
          go_wp2_with fail
          refine (Same.to H3.out (In_same x.minute 0 1439 _)).mono ?_
          rintro e w1 ⟨rfl, rfl⟩
          go_wp2
          go_ret
          exact Fin.out _ _ Hv.out hb0
        | true =>
          have y3 := inB_iff.1 h3
          have H3 := Lib.hid h3
          have hv : tkB t x = true := tkB_iff.2 ⟨by omega, ⟨z1.1, z1.2, by omega⟩, by rw [if_pos k0]; exact ⟨y2, y3⟩⟩
          have Hv := Lib.hid hv
          clear hv
          clear h3 k0
          go_enter Try.func54, Try.ntmps54
          go_wp2_with fail
          refine (Same.to H1.out (In_same x.low 0 x.high _)).mono ?_
          rintro e w1 ⟨rfl, rfl⟩
          go_wp2_with fail
          refine (Same.to H2.out (In_same x.day 0 6 _)).mono ?_
          rintro e w1 ⟨rfl, rfl⟩
          go_wp2_with fail
          refine (Same.to H3.out (In_same x.minute 0 1439 _)).mono ?_
          rintro e w1 ⟨rfl, rfl⟩
          go_wp2
          go_ret
          exact Fin.out _ _ Hv.out hb0
    · have j0 : ((x.kind : Int) == 0) = false := by simp; omega
      by_cases k1 : x.kind = 1
      · have j1 : ((x.kind : Int) == 1) = true := by simp [k1]
        cases h2 : inB x.day 0 6 with
        | false =>
          have H2 := Lib.hid h2
          have hv : tkB t x = false := not_tk (fun h => by rw [if_neg k0] at h; exact h.2.2.2.elim (fun h => inB_false h2 (by omega)) (fun h => inB_false h2 h.2))
          have Hv := Lib.hid hv
          clear hv
          clear h2 k0 k1
          go_enter Try.func54, Try.ntmps54
          go_wp2_with fail
          refine (Same.to H1.out (In_same x.low 0 x.high _)).mono ?_
          rintro e w1 ⟨rfl, rfl⟩
          go_wp2_with fail
          refine (Same.to H2.out (In_same x.day 0 6 _)).mono ?_
          rintro e w1 ⟨rfl, rfl⟩
          go_wp2
          go_ret
          exact Fin.out _ _ Hv.out hb0
        | true =>
          have y2 := inB_iff.1 h2
          have H2 := Lib.hid h2
          clear h2
          by_cases m0 : x.minute = 0
          · have m1 : (x.minute == 0) = true := by simp [m0]
            have hv : tkB t x = true := tkB_iff.2 ⟨by omega, ⟨z1.1, z1.2, by omega⟩, by rw [if_neg k0]; exact ⟨m0, Or.inr ⟨k1, y2⟩⟩⟩
            have Hv := Lib.hid hv
            clear hv
            clear m0 k0 k1
            go_enter Try.func54, Try.ntmps54
            go_wp2_with fail
            refine (Same.to H1.out (In_same x.low 0 x.high _)).mono ?_
            rintro e w1 ⟨rfl, rfl⟩
            go_wp2_with fail
            refine (Same.to H2.out (In_same x.day 0 6 _)).mono ?_
            rintro e w1 ⟨rfl, rfl⟩
            go_wp2
            go_ret
            exact Fin.out _ _ Hv.out hb0
          · have m1 : (x.minute == 0) = false := by simpa using m0
            have hv : tkB t x = false := not_tk (fun h => by rw [if_neg k0] at h; exact m0 h.2.2.1)
            have Hv := Lib.hid hv
            clear hv
            clear m0 k0 k1
            go_enter Try.func54, Try.ntmps54
            go_wp2_with fail
            refine (Same.to H1.out (In_same x.low 0 x.high _)).mono ?_
            rintro e w1 ⟨rfl, rfl⟩
            go_wp2_with fail
            refine (Same.to H2.out (In_same x.day 0 6 _)).mono ?_
            rintro e w1 ⟨rfl, rfl⟩
            go_wp2
            go_ret
            exact Fin.out _ _ Hv.out hb0
      · have j1 : ((x.kind : Int) == 1) = false := by simp; omega
        by_cases d0 : x.day = 0
        · have d1 : (x.day == 0) = true := by simp [d0]
          by_cases m0 : x.minute = 0
          · have m1 : (x.minute == 0) = true := by simp [m0]
            have hv : tkB t x = true := tkB_iff.2 ⟨by omega, ⟨z1.1, z1.2, by omega⟩, by rw [if_neg k0]; exact ⟨m0, Or.inl d0⟩⟩
            have Hv := Lib.hid hv
            clear hv
            clear m0 d0 k0 k1
            go_enter Try.func54, Try.ntmps54
            go_wp2_with fail
            refine (Same.to H1.out (In_same x.low 0 x.high _)).mono ?_
            rintro e w1 ⟨rfl, rfl⟩
            go_wp2
            go_ret
            exact Fin.out _ _ Hv.out hb0
          · have m1 : (x.minute == 0) = false := by simpa using m0
            have hv : tkB t x = false := not_tk (fun h => by rw [if_neg k0] at h; exact m0 h.2.2.1)
            have Hv := Lib.hid hv
            clear hv
            clear m0 d0 k0 k1
            go_enter Try.func54, Try.ntmps54
            go_wp2_with fail
            refine (Same.to H1.out (In_same x.low 0 x.high _)).mono ?_
            rintro e w1 ⟨rfl, rfl⟩
            go_wp2
            go_ret
            exact Fin.out _ _ Hv.out hb0
        · have d1 : (x.day == 0) = false := by simpa using d0
          have hv : tkB t x = false := not_tk (fun h => by rw [if_neg k0] at h; exact h.2.2.2.elim (fun h => d0 h) (fun h => k1 h.1))
          have Hv := Lib.hid hv
          clear hv
          clear d0 k0 k1
          go_enter Try.func54, Try.ntmps54
          go_wp2_with fail
          refine (Same.to H1.out (In_same x.low 0 x.high _)).mono ?_
          rintro e w1 ⟨rfl, rfl⟩
          go_wp2
          go_ret
          exact Fin.out _ _ Hv.out hb0
theorem NumsAt.at_' {K : IntKind} {w : World} {v : Value} {l : List Int} (h : NumsAt K w v l) {k : Nat} (hk : k < l.length) :
    ∃ b o x, (∃ c, v = .slice (some ⟨b, o, none⟩) l.length c) ∧ l[k]? = some x ∧ w.cell? ⟨b, o + k, none⟩ = some (.int K x) ∧ True := by
  obtain ⟨A, c, rfl, _⟩ := h.form
  obtain ⟨b, o, x, rfl, h1, h2, _⟩ := h.at_ hk
  exact ⟨b, o, x, ⟨c, rfl⟩, h1, h2, trivial⟩
set_option maxRecDepth 100000 in
set_option maxHeartbeats 1000000 in
theorem Price_ref (t : Tar) (a b c : Value) (x : Tk) (w : World) (hT : TarAt w a b c t) (ht : tarB t = true) (h0 : 0 ≤ x.low) (h1 : x.low ≤ x.high) (h2 : x.high < t.zones) : Calls Try.prog 56 #[.agg #[.int .i64 t.zones, a, b, c, .int .i64 t.window], .agg #[.int .u8 (x.kind : Int), .int .i64 x.low, .int .i64 x.high, .int .i64 x.day, .int .i64 x.minute]] w (Gives w (.int .i64 (priceT t x))) := by
  have hb0 : Below w.heap.size w ((w.alloc (.cells #[.int .i64 t.zones, a, b, c, .int .i64 t.window] 24)).alloc (.cells #[.int .u8 (x.kind : Int), .int .i64 x.low, .int .i64 x.high, .int .i64 x.day, .int .i64 x.minute] 101)) := two_below w _ _
  have hz := tar_pos ht
  obtain ⟨n, hn⟩ : ∃ n : Nat, x.high - x.low = (n : Int) := ⟨(x.high - x.low).toNat, by omega⟩
  have q : IntKind.i64.wrap (x.high - x.low) = (n : Int) := by rw [hn]; exact IntWalk.i64_in _ (by omega)
  by_cases k0 : x.kind = 0
  · have j0 : ((x.kind : Int) == 0) = true := by simp [k0]
    have hl : ((t.singles).length : Int) = t.zones := by have := (kindL_ok ht 0).1; simpa [kindL] using this
    obtain ⟨bb, oo, z, ⟨cA, rfl⟩, hx, dx, _⟩ := (hT.below hb0).singles.at_' (k := n) (by omega)
    have hp : priceT t x = z := by
      unfold priceT kindL
      rw [if_pos k0, hn, Int.toNat_natCast, hx]
      rfl
    have i0 : (n : Int) < ((t.singles).length : Int) := by omega
    have Hp := Lib.hid hp
    clear hp hx hT hl ht hz h0 h1 h2 k0 hn
    go_enter Try.func56, Try.ntmps56
    go_wp2
    go_ret
    exact gives_int Hp.out.symm hb0
  have j0 : ((x.kind : Int) == 0) = false := by simp; omega
  by_cases k1 : x.kind = 1
  · have j1 : ((x.kind : Int) == 1) = true := by simp [k1]
    have hl : ((t.days).length : Int) = t.zones := by have := (kindL_ok ht 1).1; simpa [kindL] using this
    obtain ⟨bb, oo, z, ⟨cA, rfl⟩, hx, dx, _⟩ := (hT.below hb0).days.at_' (k := n) (by omega)
    have hp : priceT t x = z := by
      unfold priceT kindL
      rw [if_neg k0, if_pos k1, hn, Int.toNat_natCast, hx]
      rfl
    have i0 : (n : Int) < ((t.days).length : Int) := by omega
    have Hp := Lib.hid hp
    clear hp hx hT hl ht hz h0 h1 h2 k1 hn
    go_enter Try.func56, Try.ntmps56
    go_wp2
    go_ret
    exact gives_int Hp.out.symm hb0
  have j1 : ((x.kind : Int) == 1) = false := by simp; omega
  have hl : ((t.weeks).length : Int) = t.zones := by have := (kindL_ok ht 2).1; simpa [kindL] using this
  obtain ⟨bb, oo, z, ⟨cA, rfl⟩, hx, dx, _⟩ := (hT.below hb0).weeks.at_' (k := n) (by omega)
  have hp : priceT t x = z := by
    unfold priceT kindL
    rw [if_neg k0, if_neg k1, hn, Int.toNat_natCast, hx]
    rfl
  have i0 : (n : Int) < ((t.weeks).length : Int) := by omega
  have Hp := Lib.hid hp
  clear hp hx hT hl ht hz h0 h1 h2 k0 k1 hn
  go_enter Try.func56, Try.ntmps56
  go_wp2
  go_ret
  exact gives_int Hp.out.symm hb0
end Go.Proofs.Ytmbkpfkkohpnkaa
