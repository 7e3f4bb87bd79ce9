import Derived.Test.YtmbkpfkkohpnkaaKe
set_option linter.unusedVariables false
set_option linter.unusedSimpArgs false
namespace Go.Proofs.Ytmbkpfkkohpnkaa
open Go Go.Proofs Go.RowKit

theorem startB_uniq {l : List Rd} {x : Tk} : startB (uniqL l) x = startB l x := by
  unfold startB
  congr 1
  rw [Bool.eq_iff_iff, List.any_eq_true, List.any_eq_true]
  constructor
  · rintro ⟨r, h1, h2⟩; exact ⟨r, mem_uniqL.1 h1, h2⟩
  · rintro ⟨r, h1, h2⟩; exact ⟨r, mem_uniqL.2 h1, h2⟩
theorem areTk_uniq {t : Tar} {l : List Rd} {X : List Tk} : areTk t (uniqL l) X = areTk t l X := by
  rw [Bool.eq_iff_iff, areTk_iff, areTk_iff]
  constructor
  · rintro ⟨h1, h2⟩; exact ⟨fun x hx => ⟨(h1 x hx).1, by rw [← startB_uniq]; exact (h1 x hx).2⟩, fun r hr => h2 r (mem_uniqL.2 hr)⟩
  · rintro ⟨h1, h2⟩; exact ⟨fun x hx => ⟨(h1 x hx).1, by rw [startB_uniq]; exact (h1 x hx).2⟩, fun r hr => h2 r (mem_uniqL.1 hr)⟩
theorem least_uniq {t : Tar} {l : List Rd} {n : Int} (h : LeastT t l n) : LeastT t (uniqL l) n := by
  obtain ⟨⟨X, h1, h2⟩, h3⟩ := h
  exact ⟨⟨X, by rw [areTk_uniq]; exact h1, h2⟩, fun Y h4 h5 => h3 Y h4 fun r hr => h5 r (mem_uniqL.2 hr)⟩
theorem charge_uniq {t : Tar} {l : List Rd} (h : ridesF t l = 0) : chargeR t (uniqL l) [] = priceL t l := by
  obtain ⟨ht, _, hr⟩ := ridesF_all h
  exact chargeR_least ht (fun r hx => hr r (mem_uniqL.1 hx)) (least_uniq (price_least h))
theorem own_tickets {t : Tar} {l : List Rd} (h : ridesF t l = 0) : areTk t l (chargeT t (onceL l)).2 = true ∧ sumT t (chargeT t (onceL l)).2 = priceL t l ∧ (chargeT t (onceL l)).2.length ≤ 12 := by
  obtain ⟨h1, h2, _⟩ := charge_are (ridesF_ok h)
  exact ⟨by rw [← areTk_once]; exact h1, h2, pay_few (ridesF_ok h) _⟩
theorem fit_nil {t : Tar} {n : Nat} (h : n ≤ 900) : GsFit t n [] := ⟨fun g hg => (List.not_mem_nil hg).elim, by simpa using h, fun g hg => (List.not_mem_nil hg).elim⟩
end Go.Proofs.Ytmbkpfkkohpnkaa
