import Derived.Test.YtmbkpfkkohpnkaaWb
set_option linter.unusedVariables false
set_option linter.unusedSimpArgs false
namespace Go.Proofs.Ytmbkpfkkohpnkaa
open Go Go.Proofs Go.RowKit

theorem within_same (n lo hi : Int) (w : World) : Calls Try.prog 48 #[.int .i64 n, .int .i64 lo, .int .i64 hi] w (Same w (.bool (inB n lo hi))) := by
  by_cases h1 : lo ≤ n
  · by_cases h2 : n ≤ hi
    · have e : inB n lo hi = true := by simp [inB, h1, h2]
      rw [e]; clear e
      go_enter Try.func48, Try.ntmps48
      go_wp2
      go_ret
      exact ⟨rfl, rfl⟩
    · have e : inB n lo hi = false := by simp [inB, h2]
      rw [e]; clear e
      go_enter Try.func48, Try.ntmps48
      go_wp2
      go_ret
      exact ⟨rfl, rfl⟩
  · have e : inB n lo hi = false := by simp [inB, h1]
    rw [e]; clear e
    go_enter Try.func48, Try.ntmps48
    go_wp2
    go_ret
    exact ⟨rfl, rfl⟩
theorem within_any (n lo hi : Int) (w : World) : Calls Try.prog 48 #[.int .i64 n, .int .i64 lo, .int .i64 hi] w (Gives w (.bool (inB n lo hi))) := Same.gives (within_same n lo hi w)
theorem In_same (n lo hi : Int) (w : World) : Calls Try.prog 41 #[.int .i64 n, .int .i64 lo, .int .i64 hi] w (Same w (.bool (inB n lo hi))) := by
  by_cases h1 : lo ≤ n
  · by_cases h2 : n ≤ hi
    · have e : inB n lo hi = true := by simp [inB, h1, h2]
      rw [e]; clear e
      go_enter Try.func41, Try.ntmps41
      go_wp2
      go_ret
      exact ⟨rfl, rfl⟩
    · have e : inB n lo hi = false := by simp [inB, h2]
      rw [e]; clear e
      go_enter Try.func41, Try.ntmps41
      go_wp2
      go_ret
      exact ⟨rfl, rfl⟩
  · have e : inB n lo hi = false := by simp [inB, h1]
    rw [e]; clear e
    go_enter Try.func41, Try.ntmps41
    go_wp2
    go_ret
    exact ⟨rfl, rfl⟩
theorem In_any (n lo hi : Int) (w : World) : Calls Try.prog 41 #[.int .i64 n, .int .i64 lo, .int .i64 hi] w (Gives w (.bool (inB n lo hi))) := Same.gives (In_same n lo hi w)
theorem day_same (n : Int) (w : World) : Calls Try.prog 90 #[.int .i64 n] w (Same w (.bool (inB n 0 6))) := by
  go_enter Try.func90, Try.ntmps90
  go_wp2_with (go_at_call 48; refine (within_same _ _ _ _).mono ?_; rintro e w1 ⟨rfl, rfl⟩)
  go_ret
  exact ⟨rfl, rfl⟩
theorem minute_same (n : Int) (w : World) : Calls Try.prog 91 #[.int .i64 n] w (Same w (.bool (inB n 0 1439))) := by
  go_enter Try.func91, Try.ntmps91
  go_wp2_with (go_at_call 48; refine (within_same _ _ _ _).mono ?_; rintro e w1 ⟨rfl, rfl⟩)
  go_ret
  exact ⟨rfl, rfl⟩
/-- A tariff's lists. -/
structure TarAt (w : World) (a b c : Value) (t : Tar) : Prop where
  singles : NumsAt .i64 w a t.singles
  days : NumsAt .i64 w b t.days
  weeks : NumsAt .i64 w c t.weeks
theorem TarAt.below {w w' : World} {a b c : Value} {t : Tar} (h : TarAt w a b c t) (hb : Below w.heap.size w w') : TarAt w' a b c t := ⟨h.singles.below hb, h.days.below hb, h.weeks.below hb⟩
theorem tkB_eq (t : Tar) (x : Tk) : tkB t x = (!(decide (2 < x.kind) || !zonesB t x.low x.high) && (if x.kind = 0 then inB x.day 0 6 && inB x.minute 0 1439 else decide (x.minute = 0) && (decide (x.day = 0) || (decide (x.kind = 1) && inB x.day 0 6)))) := rfl
set_option maxRecDepth 100000 in
theorem zones_any (t : Tar) (a b c : Value) (lo hi : Int) (w : World) : Calls Try.prog 89 #[.agg #[.int .i64 t.zones, a, b, c, .int .i64 t.window], .int .i64 lo, .int .i64 hi] w (Gives w (.bool (zonesB t lo hi))) := by
  have hb0 : Below w.heap.size w (w.alloc (.cells #[.int .i64 t.zones, a, b, c, .int .i64 t.window] 32)) := (Below.refl _ _).alloc (Nat.le_refl _) _
  unfold zonesB
  cases h1 : inB lo 0 hi with
  | false =>
    have H1 := Lib.hid h1
    clear h1
    go_enter Try.func89, Try.ntmps89
    go_wp2_with (go_at_call 48; refine (Same.to H1.out (within_same _ _ _ _)).mono ?_; rintro e w2 ⟨rfl, rfl⟩)
    go_ret
    exact ⟨rfl, hb0⟩
  | true =>
    have H1 := Lib.hid h1
    clear h1
    simp only [Bool.true_and]
    go_enter Try.func89, Try.ntmps89
    go_wp2_with (go_at_call 48; refine (Same.to H1.out (within_same _ _ _ _)).mono ?_; rintro e w2 ⟨rfl, rfl⟩)
    go_ret
    exact ⟨rfl, hb0⟩
set_option maxRecDepth 100000 in
theorem ride_any (t : Tar) (a b c : Value) (r : Rd) (w : World) : Calls Try.prog 77 #[.agg #[.int .i64 t.zones, a, b, c, .int .i64 t.window], .agg #[.int .i64 r.day, .int .i64 r.minute, .int .i64 r.low, .int .i64 r.high]] w (Gives w (.bool (rideB t r))) := by
  have hb0 : Below w.heap.size w ((w.alloc (.cells #[.int .i64 t.zones, a, b, c, .int .i64 t.window] 32)).alloc (.cells #[.int .i64 r.day, .int .i64 r.minute, .int .i64 r.low, .int .i64 r.high] 70)) :=
    ((Below.refl _ _).alloc (Nat.le_refl _) _).alloc (by simp) _
  unfold rideB
  cases h1 : inB r.day 0 6 with
  | false =>
    have H1 := Lib.hid h1
    clear h1
    go_enter Try.func77, Try.ntmps77
    go_wp2_with (go_at_call 90; refine (Same.to H1.out (day_same _ _)).mono ?_; rintro e w2 ⟨rfl, rfl⟩)
    go_ret
    exact ⟨rfl, hb0⟩
  | true =>
    have H1 := Lib.hid h1
    clear h1
    cases h2 : inB r.minute 0 1439 with
    | false =>
      have H2 := Lib.hid h2
      clear h2
      go_enter Try.func77, Try.ntmps77
      go_wp2_with (first
        | (go_at_call 90; refine (Same.to H1.out (day_same _ _)).mono ?_; rintro e w2 ⟨rfl, rfl⟩)
        | (go_at_call 91; refine (Same.to H2.out (minute_same _ _)).mono ?_; rintro e w2 ⟨rfl, rfl⟩))
      go_ret
      exact ⟨rfl, hb0⟩
    | true =>
      have H2 := Lib.hid h2
      clear h2
      simp only [Bool.true_and]
      have Hz := Lib.hid (zones_any t a b c r.low r.high)
      go_enter Try.func77, Try.ntmps77
      go_wp2_with (first
        | (go_at_call 90; refine (Same.to H1.out (day_same _ _)).mono ?_; rintro e w2 ⟨rfl, rfl⟩)
        | (go_at_call 91; refine (Same.to H2.out (minute_same _ _)).mono ?_; rintro e w2 ⟨rfl, rfl⟩)
        | (go_at_call 89; refine (Hz.out _).mono ?_; rintro e w3 ⟨rfl, hb3⟩))
      go_ret
      exact ⟨rfl, hb0.trans (hb3.mono hb0.size)⟩
theorem ride_val (t : Tar) (a b c : Value) (r : Rd) (w : World) : CallsVal Try.prog (.func (.func 77) #[.agg #[.int .i64 t.zones, a, b, c, .int .i64 t.window]] #[]) #[.agg #[.int .i64 r.day, .int .i64 r.minute, .int .i64 r.low, .int .i64 r.high]] w (Gives w (.bool (rideB t r))) :=
  ⟨77, #[.agg #[.int .i64 t.zones, a, b, c, .int .i64 t.window], .agg #[.int .i64 r.day, .int .i64 r.minute, .int .i64 r.low, .int .i64 r.high]], by kernel_rfl, ride_any t a b c r w⟩
theorem allRide_any (t : Tar) (a b c v : Value) (l : List Rd) (w : World) (hv : RdsAt w v l) :
    Calls Try.prog 72 #[v, .func (.func 77) #[.agg #[.int .i64 t.zones, a, b, c, .int .i64 t.window]] #[]] w (Gives w (.bool (l.all (rideB t)))) :=
  all_rds _ _ _ _ v l w hv fun k x w' _ _ => ride_val t a b c x w'
set_option maxRecDepth 100000 in
set_option maxHeartbeats 1000000 in
theorem ticket_any (t : Tar) (a b c : Value) (x : Tk) (w : World) (hk : x.kind < 256) : Calls Try.prog 64 #[.agg #[.int .i64 t.zones, a, b, c, .int .i64 t.window], .agg #[.int .u8 (x.kind : Int), .int .i64 x.low, .int .i64 x.high, .int .i64 x.day, .int .i64 x.minute]] w (Gives w (.bool (tkB t x))) := by
  have hb0 : Below w.heap.size w ((w.alloc (.cells #[.int .i64 t.zones, a, b, c, .int .i64 t.window] 32)).alloc (.cells #[.int .u8 (x.kind : Int), .int .i64 x.low, .int .i64 x.high, .int .i64 x.day, .int .i64 x.minute] 89)) :=
    ((Below.refl _ _).alloc (Nat.le_refl _) _).alloc (by simp) _
  rw [tkB_eq]
  by_cases h0 : 2 < x.kind
  · have i0 : (2 : Int) < (x.kind : Int) := by omega
    have e : (!(decide (2 < x.kind) || !zonesB t x.low x.high)) = false := by simp [h0]
    rw [e, Bool.false_and]
    clear e h0
    go_enter Try.func64, Try.ntmps64
    go_wp2
    go_ret
    exact ⟨rfl, hb0⟩
  have i0 : ¬ (2 : Int) < (x.kind : Int) := by omega
  have e : (!(decide (2 < x.kind) || !zonesB t x.low x.high)) = zonesB t x.low x.high := by simp [h0]
  rw [e]
  clear e h0
  have Hz := zones_any t a b c x.low x.high
  cases hz : zonesB t x.low x.high with
  | false =>
    rw [hz] at Hz
    have Hz := Lib.hid Hz
    clear hz
    rw [Bool.false_and]
    go_enter Try.func64, Try.ntmps64
    go_wp2_with (go_at_call 89; refine (Hz.out _).mono ?_; rintro e w3 ⟨rfl, hb3⟩)
    go_ret
    exact ⟨rfl, hb0.trans (hb3.mono hb0.size)⟩
  | true =>
    rw [hz] at Hz
    have Hz := Lib.hid Hz
    clear hz
    rw [Bool.true_and]
    by_cases k0 : x.kind = 0
    · rw [if_pos k0]
      have j0 : ((x.kind : Int) == 0) = true := by simp [k0]
      clear k0
      cases h1 : inB x.day 0 6 with
      | false =>
        have H1 := Lib.hid h1
        clear h1
        go_enter Try.func64, Try.ntmps64
        go_wp2_with (first
          | (go_at_call 89; refine (Hz.out _).mono ?_; rintro e w3 ⟨rfl, hb3⟩; have g := fun (o : Nat) (y : Value) (h : ((w.alloc (.cells #[.int .i64 t.zones, a, b, c, .int .i64 t.window] 32)).alloc (.cells #[.int .u8 (x.kind : Int), .int .i64 x.low, .int .i64 x.high, .int .i64 x.day, .int .i64 x.minute] 89)).cell? ⟨w.heap.size + 1, o, none⟩ = some y) => cell_below hb3 h; have g0 := g 0 _ (by simp [go_sem]; rfl); have g3 := g 3 _ (by simp [go_sem]; rfl); have g4 := g 4 _ (by simp [go_sem]; rfl))
          | (go_at_call 90; refine (Same.to H1.out (day_same _ _)).mono ?_; rintro e w2 ⟨rfl, rfl⟩))
        go_ret
        exact ⟨rfl, hb0.trans (hb3.mono hb0.size)⟩
      | true =>
        have H1 := Lib.hid h1
        clear h1
        go_enter Try.func64, Try.ntmps64
        go_wp2_with (first
          | (go_at_call 89; refine (Hz.out _).mono ?_; rintro e w3 ⟨rfl, hb3⟩; have g := fun (o : Nat) (y : Value) (h : ((w.alloc (.cells #[.int .i64 t.zones, a, b, c, .int .i64 t.window] 32)).alloc (.cells #[.int .u8 (x.kind : Int), .int .i64 x.low, .int .i64 x.high, .int .i64 x.day, .int .i64 x.minute] 89)).cell? ⟨w.heap.size + 1, o, none⟩ = some y) => cell_below hb3 h; have g0 := g 0 _ (by simp [go_sem]; rfl); have g3 := g 3 _ (by simp [go_sem]; rfl); have g4 := g 4 _ (by simp [go_sem]; rfl))
          | (go_at_call 90; refine (Same.to H1.out (day_same _ _)).mono ?_; rintro e w2 ⟨rfl, rfl⟩)
          | (go_at_call 91; refine (minute_same _ _).mono ?_; rintro e w2 ⟨rfl, rfl⟩))
        go_ret
        exact ⟨rfl, hb0.trans (hb3.mono hb0.size)⟩
    · rw [if_neg k0]
      have j0 : ((x.kind : Int) == 0) = false := by simp; omega
      clear k0
      by_cases m0 : x.minute = 0
      · have m1 : (x.minute == 0) = true := by simp [m0]
        rw [decide_eq_true m0, Bool.true_and]
        clear m0
        by_cases d0 : x.day = 0
        · have d1 : (x.day == 0) = true := by simp [d0]
          rw [decide_eq_true d0, Bool.true_or]
          clear d0
          go_enter Try.func64, Try.ntmps64
          go_wp2_with (go_at_call 89; refine (Hz.out _).mono ?_; rintro e w3 ⟨rfl, hb3⟩; have g := fun (o : Nat) (y : Value) (h : ((w.alloc (.cells #[.int .i64 t.zones, a, b, c, .int .i64 t.window] 32)).alloc (.cells #[.int .u8 (x.kind : Int), .int .i64 x.low, .int .i64 x.high, .int .i64 x.day, .int .i64 x.minute] 89)).cell? ⟨w.heap.size + 1, o, none⟩ = some y) => cell_below hb3 h; have g0 := g 0 _ (by simp [go_sem]; rfl); have g3 := g 3 _ (by simp [go_sem]; rfl); have g4 := g 4 _ (by simp [go_sem]; rfl))
          go_ret
          exact ⟨rfl, hb0.trans (hb3.mono hb0.size)⟩
        · have d1 : (x.day == 0) = false := by simpa using d0
          rw [decide_eq_false d0, Bool.false_or]
          clear d0
          by_cases k1 : x.kind = 1
          · have j1 : ((x.kind : Int) == 1) = true := by simp [k1]
            rw [decide_eq_true k1, Bool.true_and]
            clear k1
            go_enter Try.func64, Try.ntmps64
            go_wp2_with (first
              | (go_at_call 89; refine (Hz.out _).mono ?_; rintro e w3 ⟨rfl, hb3⟩; have g := fun (o : Nat) (y : Value) (h : ((w.alloc (.cells #[.int .i64 t.zones, a, b, c, .int .i64 t.window] 32)).alloc (.cells #[.int .u8 (x.kind : Int), .int .i64 x.low, .int .i64 x.high, .int .i64 x.day, .int .i64 x.minute] 89)).cell? ⟨w.heap.size + 1, o, none⟩ = some y) => cell_below hb3 h; have g0 := g 0 _ (by simp [go_sem]; rfl); have g3 := g 3 _ (by simp [go_sem]; rfl); have g4 := g 4 _ (by simp [go_sem]; rfl))
              | (go_at_call 90; refine (day_same _ _).mono ?_; rintro e w2 ⟨rfl, rfl⟩))
            go_ret
            exact ⟨rfl, hb0.trans (hb3.mono hb0.size)⟩
          · have j1 : ((x.kind : Int) == 1) = false := by simp; omega
            rw [decide_eq_false k1, Bool.false_and]
            clear k1
            go_enter Try.func64, Try.ntmps64
            go_wp2_with (go_at_call 89; refine (Hz.out _).mono ?_; rintro e w3 ⟨rfl, hb3⟩; have g := fun (o : Nat) (y : Value) (h : ((w.alloc (.cells #[.int .i64 t.zones, a, b, c, .int .i64 t.window] 32)).alloc (.cells #[.int .u8 (x.kind : Int), .int .i64 x.low, .int .i64 x.high, .int .i64 x.day, .int .i64 x.minute] 89)).cell? ⟨w.heap.size + 1, o, none⟩ = some y) => cell_below hb3 h; have g0 := g 0 _ (by simp [go_sem]; rfl); have g3 := g 3 _ (by simp [go_sem]; rfl); have g4 := g 4 _ (by simp [go_sem]; rfl))
            go_ret
            exact ⟨rfl, hb0.trans (hb3.mono hb0.size)⟩
      · have m1 : (x.minute == 0) = false := by simpa using m0
        rw [decide_eq_false m0, Bool.false_and]
        clear m0
        go_enter Try.func64, Try.ntmps64
        go_wp2_with (go_at_call 89; refine (Hz.out _).mono ?_; rintro e w3 ⟨rfl, hb3⟩; have g := fun (o : Nat) (y : Value) (h : ((w.alloc (.cells #[.int .i64 t.zones, a, b, c, .int .i64 t.window] 32)).alloc (.cells #[.int .u8 (x.kind : Int), .int .i64 x.low, .int .i64 x.high, .int .i64 x.day, .int .i64 x.minute] 89)).cell? ⟨w.heap.size + 1, o, none⟩ = some y) => cell_below hb3 h; have g0 := g 0 _ (by simp [go_sem]; rfl); have g3 := g 3 _ (by simp [go_sem]; rfl); have g4 := g 4 _ (by simp [go_sem]; rfl))
        go_ret
        exact ⟨rfl, hb0.trans (hb3.mono hb0.size)⟩
theorem ticket_val (t : Tar) (a b c : Value) (x : Tk) (w : World) (hk : x.kind < 256) : CallsVal Try.prog (.func (.func 64) #[.agg #[.int .i64 t.zones, a, b, c, .int .i64 t.window]] #[]) #[.agg #[.int .u8 (x.kind : Int), .int .i64 x.low, .int .i64 x.high, .int .i64 x.day, .int .i64 x.minute]] w (Gives w (.bool (tkB t x))) :=
  ⟨64, #[.agg #[.int .i64 t.zones, a, b, c, .int .i64 t.window], .agg #[.int .u8 (x.kind : Int), .int .i64 x.low, .int .i64 x.high, .int .i64 x.day, .int .i64 x.minute]], by kernel_rfl, ticket_any t a b c x w hk⟩
theorem allTicket_any (t : Tar) (a b c v : Value) (l : List Tk) (w : World) (hv : TksAt w v l) (hk : ∀ x ∈ l, x.kind < 256) :
    Calls Try.prog 63 #[v, .func (.func 64) #[.agg #[.int .i64 t.zones, a, b, c, .int .i64 t.window]] #[]] w (Gives w (.bool (l.all (tkB t)))) :=
  all_tks _ _ _ _ v l w hv fun k x w' hx _ => ticket_val t a b c x w' (hk x (List.mem_of_getElem? hx))
theorem covB_eq (t : Tar) (x : Tk) (r : Rd) : covB t x r = (!(decide (r.low < x.low) || decide (x.high < r.high)) && (if x.kind = 0 then decide (r.day = x.day) && inB r.minute x.minute (x.minute + t.window) else if x.kind = 1 then decide (r.day = x.day) else true)) := rfl
set_option maxRecDepth 100000 in
set_option maxHeartbeats 1000000 in
theorem covers_any (t : Tar) (a b c : Value) (x : Tk) (r : Rd) (w : World) (hk : x.kind < 256) (hm : 0 ≤ x.minute ∧ x.minute ≤ 1439) (hw : 0 ≤ t.window ∧ t.window ≤ 1440) :
    Calls Try.prog 71 #[.agg #[.int .i64 t.zones, a, b, c, .int .i64 t.window], .agg #[.int .u8 (x.kind : Int), .int .i64 x.low, .int .i64 x.high, .int .i64 x.day, .int .i64 x.minute], .agg #[.int .i64 r.day, .int .i64 r.minute, .int .i64 r.low, .int .i64 r.high]] w (Gives w (.bool (covB t x r))) := by
  have hb0 : Below w.heap.size w (((w.alloc (.cells #[.int .i64 t.zones, a, b, c, .int .i64 t.window] 32)).alloc (.cells #[.int .u8 (x.kind : Int), .int .i64 x.low, .int .i64 x.high, .int .i64 x.day, .int .i64 x.minute] 89)).alloc (.cells #[.int .i64 r.day, .int .i64 r.minute, .int .i64 r.low, .int .i64 r.high] 70)) :=
    (((Below.refl _ _).alloc (Nat.le_refl _) _).alloc (by simp) _).alloc (by simp; omega) _
  rw [covB_eq]
  have q : IntKind.i64.wrap (x.minute + t.window) = x.minute + t.window := IntWalk.i64_in _ (by omega)
  clear hm hw
  by_cases h1 : r.low < x.low
  · simp only [h1, decide_true, Bool.true_or, Bool.not_true, Bool.false_and]
    go_enter Try.func71, Try.ntmps71
    go_wp2
    go_ret
    exact ⟨rfl, hb0⟩
  by_cases h2 : x.high < r.high
  · simp only [h2, decide_true, Bool.or_true, Bool.not_true, Bool.false_and]
    go_enter Try.func71, Try.ntmps71
    go_wp2
    go_ret
    exact ⟨rfl, hb0⟩
  simp only [h1, h2, decide_false, Bool.or_false, Bool.not_false, Bool.true_and]
  by_cases k0 : x.kind = 0
  · rw [if_pos k0]
    have j0 : ((x.kind : Int) == 0) = true := by simp [k0]
    clear k0
    by_cases d0 : r.day = x.day
    · have d1 : (r.day == x.day) = true := by simp [d0]
      rw [decide_eq_true d0, Bool.true_and]
      clear d0
      go_enter Try.func71, Try.ntmps71
      go_wp2_with (go_at_call 48; refine (within_same _ _ _ _).mono ?_; rintro e w2 ⟨rfl, rfl⟩)
      go_ret
      exact ⟨rfl, hb0⟩
    · have d1 : (r.day == x.day) = false := by simpa using d0
      rw [decide_eq_false d0, Bool.false_and]
      clear d0
      go_enter Try.func71, Try.ntmps71
      go_wp2
      go_ret
      exact ⟨rfl, hb0⟩
  · rw [if_neg k0]
    have j0 : ((x.kind : Int) == 0) = false := by simp; omega
    clear k0
    by_cases k1 : x.kind = 1
    · rw [if_pos k1]
      have j1 : ((x.kind : Int) == 1) = true := by simp [k1]
      clear k1
      have hd : (r.day == x.day) = decide (r.day = x.day) := by by_cases h : r.day = x.day <;> simp [h]
      go_enter Try.func71, Try.ntmps71
      go_wp2
      go_ret
      exact ⟨rfl, hb0⟩
    · rw [if_neg k1]
      have j1 : ((x.kind : Int) == 1) = false := by simp; omega
      clear k1
      go_enter Try.func71, Try.ntmps71
      go_wp2
      go_ret
      exact ⟨rfl, hb0⟩
theorem price_val (w : World) (x : Int) : CallsVal Try.prog (.func (.func 47) #[] #[]) #[.int .i64 x] w (Gives w (.bool (inB x 0 10000))) := by
  refine ⟨47, #[.int .i64 x], by kernel_rfl, ?_⟩
  go_enter Try.func47, Try.ntmps47
  go_wp2_with (go_at_call 48; refine (within_same _ _ _ _).mono ?_; rintro e w3 ⟨rfl, rfl⟩)
  go_ret
  exact ⟨rfl, Below.refl _ _⟩
theorem allPrice_any (v : Value) (l : List Int) (w : World) (hv : NumsAt .i64 w v l) : Calls Try.prog 50 #[v, .func (.func 47) #[] #[]] w (Gives w (.bool (l.all fun x => inB x 0 10000))) :=
  all_ints _ _ _ _ v l w hv fun k x w' _ _ => price_val w' x
set_option maxRecDepth 100000 in
theorem prices_any (A B : Nat) (n : Int) (v : Value) (l : List Int) (w : World) (hA : w.cell? ⟨A, 0, none⟩ = some (.int .i64 n)) (hB : w.cell? ⟨B, 0, none⟩ = some (.func (.func 47) #[] #[])) (hv : NumsAt .i64 w v l) :
    Calls Try.prog 49 #[v, .pointer (some ⟨A, 0, none⟩), .pointer (some ⟨B, 0, none⟩)] w (Gives w (.bool (pricesB l n))) := by
  obtain ⟨P, k, rfl, hc, hm⟩ := hv.form
  have hA2 := World.block_lt_of_cell? _ _ hA
  have hB2 := World.block_lt_of_cell? _ _ hB
  have Hall := Lib.hid (allPrice_any _ l w hv)
  unfold pricesB
  by_cases h1 : (l.length : Int) = n
  · have e : ((l.length : Int) == n) = true := by simp [h1]
    rw [decide_eq_true h1, Bool.true_and]
    clear h1
    go_enter Try.func49, Try.ntmps49
    go_wp2_with (go_at_call 50; refine Hall.out.mono ?_; rintro e w1 ⟨rfl, hb1⟩)
    go_ret
    exact ⟨rfl, hb1⟩
  · have e : ((l.length : Int) == n) = false := by simpa using h1
    rw [decide_eq_false h1, Bool.false_and]
    clear h1
    go_enter Try.func49, Try.ntmps49
    go_wp2
    go_ret
    exact ⟨rfl, Below.refl _ _⟩
def faultT (t : Tar) : Int := if tarB t then 0 else 1
set_option maxRecDepth 100000 in
set_option maxHeartbeats 2000000 in
theorem CheckTariff_any (t : Tar) (a b c : Value) (w : World) (hT : TarAt w a b c t) : Calls Try.prog 19 #[.agg #[.int .i64 t.zones, a, b, c, .int .i64 t.window]] w (Gives w (.int .i64 (faultT t))) := by
  have hb0 : Below w.heap.size w ((w.alloc (.cells #[.int .i64 t.zones, a, b, c, .int .i64 t.window] 32)).alloc (.cells #[.func (.func 47) #[] #[]] 93)) :=
    ((Below.refl _ _).alloc (Nat.le_refl _) _).alloc (by simp) _
  have HT := Lib.hid hT
  clear hT
  unfold faultT tarB
  cases h1 : inB t.zones 1 4 with
  | false =>
    have H1 := Lib.hid h1
    clear h1
    simp only [Bool.false_and, Bool.and_false, Bool.true_and, Bool.false_eq_true, if_false]
    go_enter Try.func19, Try.ntmps19
    go_wp2_with fail
    refine (Same.to H1.out (within_same t.zones 1 4 _)).mono ?_
    rintro e w1 ⟨rfl, rfl⟩
    go_wp2
    go_ret
    exact ⟨rfl, hb0⟩
  | true =>
    have H1 := Lib.hid h1
    clear h1
    cases h2 : inB t.window 0 1440 with
    | false =>
      have H2 := Lib.hid h2
      clear h2
      simp only [Bool.false_and, Bool.and_false, Bool.true_and, Bool.false_eq_true, if_false]
      go_enter Try.func19, Try.ntmps19
      go_wp2_with fail
      refine (Same.to H1.out (within_same t.zones 1 4 _)).mono ?_
      rintro e w1 ⟨rfl, rfl⟩
      go_wp2_with fail
      refine (Same.to H2.out (within_same t.window 0 1440 _)).mono ?_
      rintro e w1 ⟨rfl, rfl⟩
      go_wp2
      go_ret
      exact ⟨rfl, hb0⟩
    | true =>
      have H2 := Lib.hid h2
      clear h2
      cases h3 : pricesB t.singles t.zones with
      | false =>
        have H3 := Lib.hid h3
        clear h3
        simp only [Bool.false_and, Bool.and_false, Bool.true_and, Bool.false_eq_true, if_false]
        go_enter Try.func19, Try.ntmps19
        go_wp2_with fail
        refine (Same.to H1.out (within_same t.zones 1 4 _)).mono ?_
        rintro e w1 ⟨rfl, rfl⟩
        go_wp2_with fail
        refine (Same.to H2.out (within_same t.window 0 1440 _)).mono ?_
        rintro e w1 ⟨rfl, rfl⟩
        go_wp2_with fail
        refine (Gives.to H3.out (prices_any w.heap.size (w.heap.size + 1) t.zones _ _ _ (by simp [go_sem]) (by simp [go_sem]) (HT.out.below hb0).singles)).mono ?_
        rintro e w3 ⟨rfl, hb3⟩
        have q0 := cell_below hb3 (p := ⟨w.heap.size, 0, none⟩) (x := .int .i64 t.zones) (by simp [go_sem])
        have q2 := cell_below hb3 (p := ⟨w.heap.size, 2, none⟩) (x := b) (by simp [go_sem])
        have q3 := cell_below hb3 (p := ⟨w.heap.size, 3, none⟩) (x := c) (by simp [go_sem])
        have qf := cell_below hb3 (p := ⟨w.heap.size + 1, 0, none⟩) (x := .func (.func 47) #[] #[]) (by simp [go_sem])
        have hc3 := hb0.trans (hb3.mono hb0.size)
        go_wp2
        go_ret
        exact ⟨rfl, hc3⟩
      | true =>
        have H3 := Lib.hid h3
        clear h3
        cases h4 : pricesB t.days t.zones with
        | false =>
          have H4 := Lib.hid h4
          clear h4
          simp only [Bool.false_and, Bool.and_false, Bool.true_and, Bool.false_eq_true, if_false]
          go_enter Try.func19, Try.ntmps19
          go_wp2_with fail
          refine (Same.to H1.out (within_same t.zones 1 4 _)).mono ?_
          rintro e w1 ⟨rfl, rfl⟩
          go_wp2_with fail
          refine (Same.to H2.out (within_same t.window 0 1440 _)).mono ?_
          rintro e w1 ⟨rfl, rfl⟩
          go_wp2_with fail
          refine (Gives.to H3.out (prices_any w.heap.size (w.heap.size + 1) t.zones _ _ _ (by simp [go_sem]) (by simp [go_sem]) (HT.out.below hb0).singles)).mono ?_
          rintro e w3 ⟨rfl, hb3⟩
          have q0 := cell_below hb3 (p := ⟨w.heap.size, 0, none⟩) (x := .int .i64 t.zones) (by simp [go_sem])
          have q2 := cell_below hb3 (p := ⟨w.heap.size, 2, none⟩) (x := b) (by simp [go_sem])
          have q3 := cell_below hb3 (p := ⟨w.heap.size, 3, none⟩) (x := c) (by simp [go_sem])
          have qf := cell_below hb3 (p := ⟨w.heap.size + 1, 0, none⟩) (x := .func (.func 47) #[] #[]) (by simp [go_sem])
          have hc3 := hb0.trans (hb3.mono hb0.size)
          go_wp2_with fail
          refine (Gives.to H4.out (prices_any w.heap.size (w.heap.size + 1) t.zones _ _ _ q0 qf (HT.out.below hc3).days)).mono ?_
          rintro e w4 ⟨rfl, hb4⟩
          replace q0 := cell_below hb4 q0
          replace q2 := cell_below hb4 q2
          replace q3 := cell_below hb4 q3
          replace qf := cell_below hb4 qf
          have hc4 := hc3.trans (hb4.mono hc3.size)
          go_wp2
          go_ret
          exact ⟨rfl, hc4⟩
        | true =>
          have H4 := Lib.hid h4
          clear h4
          cases h5 : pricesB t.weeks t.zones with
          | false =>
            have H5 := Lib.hid h5
            clear h5
            simp only [Bool.false_and, Bool.and_false, Bool.true_and, Bool.false_eq_true, if_false]
            go_enter Try.func19, Try.ntmps19
            go_wp2_with fail
            refine (Same.to H1.out (within_same t.zones 1 4 _)).mono ?_
            rintro e w1 ⟨rfl, rfl⟩
            go_wp2_with fail
            refine (Same.to H2.out (within_same t.window 0 1440 _)).mono ?_
            rintro e w1 ⟨rfl, rfl⟩
            go_wp2_with fail
            refine (Gives.to H3.out (prices_any w.heap.size (w.heap.size + 1) t.zones _ _ _ (by simp [go_sem]) (by simp [go_sem]) (HT.out.below hb0).singles)).mono ?_
            rintro e w3 ⟨rfl, hb3⟩
            have q0 := cell_below hb3 (p := ⟨w.heap.size, 0, none⟩) (x := .int .i64 t.zones) (by simp [go_sem])
            have q2 := cell_below hb3 (p := ⟨w.heap.size, 2, none⟩) (x := b) (by simp [go_sem])
            have q3 := cell_below hb3 (p := ⟨w.heap.size, 3, none⟩) (x := c) (by simp [go_sem])
            have qf := cell_below hb3 (p := ⟨w.heap.size + 1, 0, none⟩) (x := .func (.func 47) #[] #[]) (by simp [go_sem])
            have hc3 := hb0.trans (hb3.mono hb0.size)
            go_wp2_with fail
            refine (Gives.to H4.out (prices_any w.heap.size (w.heap.size + 1) t.zones _ _ _ q0 qf (HT.out.below hc3).days)).mono ?_
            rintro e w4 ⟨rfl, hb4⟩
            replace q0 := cell_below hb4 q0
            replace q2 := cell_below hb4 q2
            replace q3 := cell_below hb4 q3
            replace qf := cell_below hb4 qf
            have hc4 := hc3.trans (hb4.mono hc3.size)
            go_wp2_with fail
            refine (Gives.to H5.out (prices_any w.heap.size (w.heap.size + 1) t.zones _ _ _ q0 qf (HT.out.below hc4).weeks)).mono ?_
            rintro e w5 ⟨rfl, hb5⟩
            replace q0 := cell_below hb5 q0
            replace q2 := cell_below hb5 q2
            replace q3 := cell_below hb5 q3
            replace qf := cell_below hb5 qf
            have hc5 := hc4.trans (hb5.mono hc4.size)
            go_wp2
            go_ret
            exact ⟨rfl, hc5⟩
          | true =>
            have H5 := Lib.hid h5
            clear h5
            simp only [Bool.true_and, if_true]
            go_enter Try.func19, Try.ntmps19
            go_wp2_with fail
            refine (Same.to H1.out (within_same t.zones 1 4 _)).mono ?_
            rintro e w1 ⟨rfl, rfl⟩
            go_wp2_with fail
            refine (Same.to H2.out (within_same t.window 0 1440 _)).mono ?_
            rintro e w1 ⟨rfl, rfl⟩
            go_wp2_with fail
            refine (Gives.to H3.out (prices_any w.heap.size (w.heap.size + 1) t.zones _ _ _ (by simp [go_sem]) (by simp [go_sem]) (HT.out.below hb0).singles)).mono ?_
            rintro e w3 ⟨rfl, hb3⟩
            have q0 := cell_below hb3 (p := ⟨w.heap.size, 0, none⟩) (x := .int .i64 t.zones) (by simp [go_sem])
            have q2 := cell_below hb3 (p := ⟨w.heap.size, 2, none⟩) (x := b) (by simp [go_sem])
            have q3 := cell_below hb3 (p := ⟨w.heap.size, 3, none⟩) (x := c) (by simp [go_sem])
            have qf := cell_below hb3 (p := ⟨w.heap.size + 1, 0, none⟩) (x := .func (.func 47) #[] #[]) (by simp [go_sem])
            have hc3 := hb0.trans (hb3.mono hb0.size)
            go_wp2_with fail
            refine (Gives.to H4.out (prices_any w.heap.size (w.heap.size + 1) t.zones _ _ _ q0 qf (HT.out.below hc3).days)).mono ?_
            rintro e w4 ⟨rfl, hb4⟩
            replace q0 := cell_below hb4 q0
            replace q2 := cell_below hb4 q2
            replace q3 := cell_below hb4 q3
            replace qf := cell_below hb4 qf
            have hc4 := hc3.trans (hb4.mono hc3.size)
            go_wp2_with fail
            refine (Gives.to H5.out (prices_any w.heap.size (w.heap.size + 1) t.zones _ _ _ q0 qf (HT.out.below hc4).weeks)).mono ?_
            rintro e w5 ⟨rfl, hb5⟩
            replace q0 := cell_below hb5 q0
            replace q2 := cell_below hb5 q2
            replace q3 := cell_below hb5 q3
            replace qf := cell_below hb5 qf
            have hc5 := hc4.trans (hb5.mono hc4.size)
            go_wp2
            go_ret
            exact ⟨rfl, hc5⟩
end Go.Proofs.Ytmbkpfkkohpnkaa
