/- DutyDoes returns true for every input that can be read, in whatever memory; its arguments read behind the call as they did before. -/
import Derived.Test.YtllobkhdeahgpaaGreatZl
import Derived.Test.YtllobkhdeahgpaaGreatFr
set_option linter.unusedVariables false
set_option linter.unusedSimpArgs false
namespace Go.Proofs.YtllobkhdeahgpaaGreat.rowDutyDoes
open Go Go.RowKit Go.ChangeShapes Go.WideShapes Go.ChangeAt Go.Deep Go.Joins

set_option maxRecDepth 100000 in
theorem lifted (os : Os) (started : os.Started) (H : Type) (enc : TypeId × Value → H) :
    ReturnsInHanded {} Tryz.checked os 7 .any (Rows.dutyDoesSpec.pre6 enc Tryz.prog Tryz.f7 Rows.dutyDoesRow.domain false) (Rows.dutyDoesSpec.post enc Tryz.prog Tryz.f7 false true false false) := by
  refine returnsInHanded_of_change (C := Tryz.checked) own started (by kernel_rfl) Tryz.func7
    (ChangeSpec.witness6 (enc := enc) (C := Tryz.checked) false ⟨#[], #[.agg #[.int .i64 0, .int .i64 0, .int .i64 0, .int .i64 0, .int .i64 0, .int .i64 0, .int .i64 0, .int .i64 0, .slice none 0 0, .slice none 0 0], .slice none 0 0, .slice none 0 0], []⟩ 8 (by kernel_rfl) (by kernel_rfl) (by kernel_rfl) (by kernel_rfl)) ?_
  intro W base args ds gs before hval0 hW hcnd _
  have hval : ∀ (j : Nat) t v, Tryz.f7.params[j]? = some t → args[j]? = some v → Value.okWide Tryz.prog W .any base t v := hval0
  have hW' := hW
  obtain ⟨p, q, hA0, hV, rfl, hfz, hnd⟩ := hW
  have hA : DataW.TrodAll enc Tryz.prog W 0 (fun _ => true) true Tryz.f7.params.toList args.toList ds p := hA0
  have hA1 := hA
  rw [Tryz.params7] at hA hval
  obtain ⟨v0, v1, v2, e0, e1, e2, p0, p1, p2, rfl, rfl, rfl, h0, h1, h2⟩ := trodAll_three hA
  obtain ⟨rfl, rfl⟩ := trodVars_none hV
  simp only [List.append_nil] at hW'
  obtain ⟨d0, u0, z0, rfl, hd0⟩ := day_open (hval 0 27 v0 rfl rfl) h0
  obtain ⟨ws1, hr1⟩ := ints_arg (hval 1 28 v1 rfl rfl) h1
  obtain ⟨ll2, hr2⟩ := rows_arg (hval 2 25 v2 rfl rfl) h2
  clear hA0 hval0 hA
  refine (Does_law d0 u0 z0 v1 v2 ws1 ll2 W hd0 hr1 hr2).mono fun e W' ⟨he, hb⟩ => ?_
  subst he
  exact ⟨_, rfl, law_post laidOut rfl hW' hA1 (by simp) (by kernel_rfl) (by kernel_rfl) Tryz.underlying4 rfl hb⟩

theorem over : Rows.dutyDoesRow.holds Tryz.pinned (OpenSpec.ofChange Rows.dutyDoesSpec) :=
  OpenClaim.holds_of_wide 7 Tryz.f7 rfl rfl rfl rfl rfl rfl rfl ⟨rfl, rfl, rfl, rfl, rfl⟩ rfl rfl rfl rfl rfl (by kernel_rfl) Tryz.func7 (by kernel_rfl)
    (of_decide_eq_true (by kernel_rfl)) (by unfold Func.isWrapper; first | (rw [if_pos (by decide +kernel)]; kernel_rfl) | (rw [if_neg (by decide +kernel)]; exact ⟨rfl, rfl⟩))
    (fun os started H enc _ => lifted os started H enc)

theorem proved : Rows.DutyDoesSaid := over
end Go.Proofs.YtllobkhdeahgpaaGreat.rowDutyDoes
