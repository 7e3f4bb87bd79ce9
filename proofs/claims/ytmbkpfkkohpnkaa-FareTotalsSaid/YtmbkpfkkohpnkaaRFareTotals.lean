/- FareTotals returns true for every input that can be read, in whatever memory; its arguments read behind the call as they did before. -/
import Derived.Test.YtmbkpfkkohpnkaaLx
import Derived.Test.YtmbkpfkkohpnkaaFr
set_option linter.unusedVariables false
set_option linter.unusedSimpArgs false
namespace Go.Proofs.Ytmbkpfkkohpnkaa.rowFareTotals
open Go Go.RowKit Go.ChangeShapes Go.WideShapes Go.ChangeAt Go.Deep Go.Joins

set_option maxRecDepth 100000 in
theorem lifted (os : Os) (started : os.Started) (H : Type) (enc : TypeId × Value → H) :
    ReturnsInHanded {} Try.checked os 5 .any (Rows.fareTotalsSpec.pre6 enc Try.prog Try.f5 Rows.fareTotalsRow.domain false) (Rows.fareTotalsSpec.post enc Try.prog Try.f5 false true false false) := by
  refine returnsInHanded_of_change (C := Try.checked) own started (by kernel_rfl) Try.func5
    (ChangeSpec.witness6 (enc := enc) (C := Try.checked) false ⟨#[], #[.agg #[.int .i64 0, .slice none 0 0, .slice none 0 0, .slice none 0 0, .int .i64 0], .slice none 0 0, .slice none 0 0], []⟩ 8 (by kernel_rfl) (by kernel_rfl) (by kernel_rfl) (by kernel_rfl)) ?_
  intro W base args ds gs before hval0 hW hcnd _
  have hval : ∀ (j : Nat) t v, Try.f5.params[j]? = some t → args[j]? = some v → Value.okWide Try.prog W .any base t v := hval0
  have hW' := hW
  obtain ⟨p, q, hA0, hV, rfl, hfz, hnd⟩ := hW
  have hA : DataW.TrodAll enc Try.prog W 0 (fun _ => true) true Try.f5.params.toList args.toList ds p := hA0
  have hA1 := hA
  rw [Try.params5] at hA hval
  obtain ⟨v0, v1, v2, e0, e1, e2, p0, p1, p2, rfl, rfl, rfl, h0, h1, h2⟩ := trodAll_three hA
  obtain ⟨rfl, rfl⟩ := trodVars_none hV
  simp only [List.append_nil] at hW'
  obtain ⟨t0, a0, b0, c0, rfl, hT0⟩ := tariff_arg (hval 0 24 v0 rfl rfl) h0
  obtain ⟨l1, hr1⟩ := taps_arg (hval 1 46 v1 rfl rfl) h1
  obtain ⟨ws2, hr2⟩ := ints_arg (hval 2 22 v2 rfl rfl) h2
  clear hA0 hval0 hA
  refine (Totals_law t0 a0 b0 c0 _ _ l1 ws2 W hT0 hr1 hr2).mono fun e W' ⟨he, hb⟩ => ?_
  subst he
  exact ⟨_, rfl, law_post laidOut rfl hW' hA1 (by simp) (by kernel_rfl) (by kernel_rfl) Try.underlying4 rfl hb⟩

theorem over : Rows.fareTotalsRow.holds Try.pinned (OpenSpec.ofChange Rows.fareTotalsSpec) :=
  OpenClaim.holds_of_wide 5 Try.f5 rfl rfl rfl rfl rfl rfl rfl ⟨rfl, rfl, rfl, rfl, rfl⟩ rfl rfl rfl rfl rfl (by kernel_rfl) Try.func5 (by kernel_rfl)
    (of_decide_eq_true (by kernel_rfl)) (by unfold Func.isWrapper; first | (rw [if_pos (by decide +kernel)]; kernel_rfl) | (rw [if_neg (by decide +kernel)]; exact ⟨rfl, rfl⟩))
    (fun os started H enc _ => lifted os started H enc)

theorem proved : Rows.FareTotalsSaid := over
end Go.Proofs.Ytmbkpfkkohpnkaa.rowFareTotals
