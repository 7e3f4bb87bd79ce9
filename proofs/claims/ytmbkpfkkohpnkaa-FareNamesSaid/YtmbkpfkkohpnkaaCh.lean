import Derived.Test.YtmbkpfkkohpnkaaOn
import Derived.Test.YtmbkpfkkohpnkaaFa
set_option linter.unusedVariables false
set_option linter.unusedSimpArgs false
namespace Go.Proofs.Ytmbkpfkkohpnkaa
open Go Go.Proofs Go.RowKit

/-! ### check -/
/-- The error of rides. -/
def ridesF (t : Tar) (l : List Rd) : Int := if tarB t then (if 12 < (onceL l).length then 3 else if (onceL l).all (rideB t) then 0 else 2) else 1
/-- What check hands back. -/
def GivesCheck (t : Tar) (l : List Rd) (w : World) (e : Ending) (w' : World) : Prop :=
  Below w.heap.size w w' ∧ ((ridesF t l ≠ 0 → e = .returned (.tuple #[.slice none 0 0, .int .i64 (ridesF t l)])) ∧
    (ridesF t l = 0 → ∃ A c, e = .returned (.tuple #[.slice A (onceL l).length c, .int .i64 0]) ∧ RdsAt w' (.slice A (onceL l).length c) (onceL l)))
set_option maxRecDepth 100000 in
set_option maxHeartbeats 1000000 in
theorem check_any (t : Tar) (a b c v : Value) (l : List Rd) (w : World) (hT : TarAt w a b c t) (hv : RdsAt w v l) (hl : l.length ≤ 1000000) :
    Calls Try.prog 51 #[.agg #[.int .i64 t.zones, a, b, c, .int .i64 t.window], v] w (GivesCheck t l w) := by
  have hb0 : Below w.heap.size w (w.alloc (.cells #[.int .i64 t.zones, a, b, c, .int .i64 t.window] 32)) := (Below.refl _ _).alloc (Nat.le_refl _) _
  have Hc := CheckTariff_any t a b c (w.alloc (.cells #[.int .i64 t.zones, a, b, c, .int .i64 t.window] 32)) (hT.below hb0)
  have Hv := Lib.hid hv
  have HT := Lib.hid hT
  clear hv hT
  have hg0 : (w.alloc (.cells #[.int .i64 t.zones, a, b, c, .int .i64 t.window] 32)).heap[w.heap.size]? = some (.cells #[.int .i64 t.zones, a, b, c, .int .i64 t.window] 32 (0, 0)) := heap_alloc_new w _
  unfold faultT at Hc
  cases htar : tarB t with
  | false =>
    rw [htar] at Hc
    have e0 : ridesF t l = 1 := by unfold ridesF; rw [htar]; rfl
    have E0 := Lib.hid e0
    have Hc := Lib.hid Hc
    clear htar e0
    go_enter Try.func51, Try.ntmps51
    go_wp2_with fail
    refine Hc.out.mono ?_
    rintro e w1 ⟨rfl, hb1⟩
    go_wp2
    go_ret2
    refine ⟨hb0.trans (hb1.mono hb0.size), fun _ => by rw [E0.out]; rfl, fun h => ?_⟩
    rw [E0.out] at h
    cases h
  | true =>
    rw [htar] at Hc
    have e0 : ridesF t l = if 12 < (onceL l).length then 3 else if (onceL l).all (rideB t) then 0 else 2 := by unfold ridesF; rw [htar]; rfl
    have E0 := Lib.hid e0
    have Hc := Lib.hid Hc
    have HG0 := Lib.hid hg0
    clear htar e0 hg0
    go_enter Try.func51, Try.ntmps51
    go_wp2_with fail
    refine Hc.out.mono ?_
    rintro e w1 ⟨rfl, hb1⟩
    have hg1 := (hb1.block w.heap.size (by simp)).trans HG0.out
    have hw1 := hb0.trans (hb1.mono hb0.size)
    have HG1 := Lib.hid hg1
    clear hg1
    go_wp2_with fail
    refine (once_any v l w1 (Hv.out.below hw1) hl).mono ?_
    rintro e w2 ⟨A, k, rfl, hr, hb2⟩
    have hlt1 : w.heap.size < w1.heap.size := (Array.getElem?_eq_some_iff.1 HG1.out).1
    have hg2 := (hb2.block w.heap.size hlt1).trans HG1.out
    have hw2 := hw1.trans (hb2.mono hw1.size)
    have gc := box_cells hg2
    have hle := onceL_le l
    have HR := Lib.hid hr
    generalize hO : onceL l = L at *
    have HO := Lib.hid hO
    by_cases h12 : 12 < L.length
    · have e1 : ridesF t l = 3 := by rw [E0.out, if_pos h12]
      have E1 := Lib.hid e1
      have i12 : (12 : Int) < (L.length : Int) := by omega
      clear e1 hr hO
      go_wp2
      go_ret2
      refine ⟨hw2, fun _ => by rw [E1.out]; rfl, fun h => ?_⟩
      rw [E1.out] at h
      cases h
    · have i12 : ¬ (12 : Int) < (L.length : Int) := by omega
      have e1 : ridesF t l = if L.all (rideB t) then 0 else 2 := by rw [E0.out, if_neg h12]
      have E1 := Lib.hid e1
      have Ha := allRide_any t a b c _ L w2 hr
      clear e1 hr hO
      cases hall : L.all (rideB t) with
      | false =>
        rw [hall] at Ha
        have Ha := Lib.hid Ha
        have Hall := Lib.hid hall
        clear hall
        go_wp2_with (go_at_call 72; refine Ha.out.mono ?_; rintro e w3 ⟨rfl, hb3⟩)
        go_ret2
        have e2 : ridesF t l = 2 := by rw [E1.out, Hall.out]; rfl
        refine ⟨hw2.trans (hb3.mono hw2.size), fun _ => by rw [e2]; rfl, fun h => ?_⟩
        rw [e2] at h
        cases h
      | true =>
        rw [hall] at Ha
        have Ha := Lib.hid Ha
        have Hall := Lib.hid hall
        clear hall
        go_wp2_with (go_at_call 72; refine Ha.out.mono ?_; rintro e w3 ⟨rfl, hb3⟩)
        go_ret2
        have e2 : ridesF t l = 0 := by rw [E1.out, Hall.out]; rfl
        exact ⟨hw2.trans (hb3.mono hw2.size), fun h => absurd e2 h, fun _ => by rw [HO.out]; exact ⟨A, k, rfl, HR.out.below hb3⟩⟩
end Go.Proofs.Ytmbkpfkkohpnkaa
