import Derived.Test.YtckgapeednokjaaGreatZ8
set_option linter.unusedVariables false
set_option linter.unusedSimpArgs false
namespace Go.Proofs.YtckgapeednokjaaGreat
open Go Go.Proofs Go.RowKit

/-! ### Legal, Pay of the reference -/
theorem duty_pcs {d : DDay} (hd : DayOk d) {l : List Nat} (hl : IsDuty d l) : (piecesL d l).length ≤ 10 ∧ ∀ p ∈ piecesL d l, InDay d p.b p.fr ∧ InDay d p.b p.to := by
  constructor
  · have h1 := rawP_le (segs d.blocks) l
    have h2 := duty_len hl
    have h3 := hd.segs
    have h4 : (piecesL d l).length = _ := (srtP_perm d.blocks (rawP (segs d.blocks) l)).length_eq
    omega
  · intro p hp
    obtain ⟨k1, k2, k3, k4⟩ := (raw_ok (bl := d.blocks) l hl.rise hl.lt).ok p ((srtP_perm _ _).mem_iff.1 hp)
    exact ⟨⟨k1, by omega⟩, k1, k3⟩
theorem lows_small {d : DDay} (hd : DayOk d) : SmallT (lowsL d.blocks) := fun b i => by
  rw [tab_lows]; have := rel_any hd b i; omega
theorem highs_small {d : DDay} (hd : DayOk d) : SmallT (highsL d.blocks) := fun b i => by
  rw [tab_highs]; have := rel_any hd b i; omega
theorem in_lows {d : DDay} {b i : Nat} (h : InDay d b i) : InTab (lowsL d.blocks) b i := by
  obtain ⟨h1, h2⟩ := h
  refine ⟨by simpa [lowsL] using h1, ?_⟩
  rw [List.getElem?_eq_getElem h1, Option.getD_some] at h2
  simp only [lowsL, List.getElem?_map, List.getElem?_eq_getElem h1, Option.map_some, Option.getD_some, List.length_map]
  exact h2
theorem in_highs {d : DDay} {b i : Nat} (h : InDay d b i) : InTab (highsL d.blocks) b i := by
  obtain ⟨h1, h2⟩ := h
  refine ⟨by simpa [highsL] using h1, ?_⟩
  rw [List.getElem?_eq_getElem h1, Option.getD_some] at h2
  simp only [highsL, List.getElem?_map, List.getElem?_eq_getElem h1, Option.map_some, Option.getD_some, List.length_map]
  exact h2
end Go.Proofs.YtckgapeednokjaaGreat
