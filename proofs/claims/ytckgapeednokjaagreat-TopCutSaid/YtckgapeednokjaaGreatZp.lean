import Derived.Test.YtckgapeednokjaaGreatZm
set_option linter.unusedVariables false
set_option linter.unusedSimpArgs false
namespace Go.Proofs.YtckgapeednokjaaGreat
open Go Go.Proofs Go.RowKit

/-! ### Truly -/
def GivesTruth (d : DDay) (w : World) (e : Ending) (w' : World) : Prop := ∃ tt, truthB d.blocks tt = true ∧ GivesTab w tt e w'
theorem cellT_snoc {l : List Rel} {row : List Int} {x : Int} {i : Nat} (h : i < row.length) : cellT l (row ++ [x]) i = cellT l row i := by
  unfold cellT
  rw [List.getElem?_append_left h, List.getElem?_append_left (by omega)]
theorem cellT_last {l : List Rel} {row : List Int} {r : Rel} {x : Int} (hr : l[row.length]? = some r) (h1 : r.lo ≤ x) (h2 : x ≤ r.hi) (h3 : 0 < row.length → row[row.length - 1]?.getD 0 ≤ x) : cellT l (row ++ [x]) row.length = true := by
  unfold cellT
  rw [List.getElem?_append_right (Nat.le_refl _), hr, Bool.and_eq_true]
  simp only [Nat.sub_self, List.getElem?_cons_zero, Option.getD_some]
  refine ⟨inB_iff.2 ⟨h1, h2⟩, ?_⟩
  by_cases h0 : row.length = 0
  · simp [h0]
  · rw [List.getElem?_append_left (by omega)]
    have := h3 (by omega)
    simp
    omega
end Go.Proofs.YtckgapeednokjaaGreat
