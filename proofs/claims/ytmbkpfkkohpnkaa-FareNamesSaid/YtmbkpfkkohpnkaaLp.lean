import Derived.Test.YtmbkpfkkohpnkaaRc
set_option linter.unusedVariables false
set_option linter.unusedSimpArgs false
namespace Go.Proofs.Ytmbkpfkkohpnkaa
open Go Go.Proofs Go.RowKit

/-! ### The price of rides, plain -/
def priceL (t : Tar) (l : List Rd) : Int := (chargeT t (onceL l)).1
theorem startB_once {l : List Rd} {x : Tk} : startB (onceL l) x = startB l x := by
  unfold startB
  congr 1
  rw [Bool.eq_iff_iff, List.any_eq_true, List.any_eq_true]
  constructor
  · rintro ⟨r, h1, h2⟩; exact ⟨r, mem_onceL.1 h1, h2⟩
  · rintro ⟨r, h1, h2⟩; exact ⟨r, mem_onceL.2 h1, h2⟩
theorem areTk_once {t : Tar} {l : List Rd} {X : List Tk} : areTk t (onceL l) X = areTk t l X := by
  rw [Bool.eq_iff_iff, areTk_iff, areTk_iff]
  constructor
  · rintro ⟨h1, h2⟩; exact ⟨fun x hx => ⟨(h1 x hx).1, by rw [← startB_once]; exact (h1 x hx).2⟩, fun r hr => h2 r (mem_onceL.2 hr)⟩
  · rintro ⟨h1, h2⟩; exact ⟨fun x hx => ⟨(h1 x hx).1, by rw [startB_once]; exact (h1 x hx).2⟩, fun r hr => h2 r (mem_onceL.1 hr)⟩
theorem least_once {t : Tar} {l : List Rd} {n : Int} (h : LeastT t (onceL l) n) : LeastT t l n := by
  obtain ⟨⟨X, h1, h2⟩, h3⟩ := h
  exact ⟨⟨X, by rw [← areTk_once]; exact h1, h2⟩, fun Y h4 h5 => h3 Y h4 fun r hr => h5 r (mem_onceL.1 hr)⟩
theorem price_least {t : Tar} {l : List Rd} (h : ridesF t l = 0) : LeastT t l (priceL t l) := least_once (charge_least (ridesF_ok h) (rising_sorted (onceL_rising l)))
theorem price_bd2 {t : Tar} {l : List Rd} (h : ridesF t l = 0) : 0 ≤ priceL t l ∧ priceL t l ≤ 120000 := pay_bd (ridesF_ok h) noneC
theorem ridesF_all {t : Tar} {l : List Rd} (h : ridesF t l = 0) : tarB t = true ∧ (onceL l).length ≤ 12 ∧ ∀ r ∈ l, rideB t r = true := by
  have := ridesF_ok h
  exact ⟨this.tar, this.len, fun r hr => this.ride r (mem_onceL.2 hr)⟩
theorem ridesF_sub {t : Tar} {l m : List Rd} (h : ridesF t l = 0) (hs : ∀ r ∈ m, r ∈ l) : ridesF t m = 0 := by
  obtain ⟨h1, h2, h3⟩ := ridesF_all h
  refine ridesF_none h1 ?_ fun x hx => h3 x (hs x hx)
  have : (onceL m).length ≤ (onceL l).length := nodup_le (rising_nodup (onceL_rising m)) fun x hx => mem_onceL.2 (hs x (mem_onceL.1 hx))
  omega
theorem ready_iff {t : Tar} {l : List Rd} : readyB t l = true ↔ thinB t = true ∧ l.length ≤ 20 ∧ ridesF t l = 0 := by simp [readyB]
end Go.Proofs.Ytmbkpfkkohpnkaa
