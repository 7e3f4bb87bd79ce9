/- FareMore returns true for every input that can be read, in whatever memory; its arguments read behind the call as they did before. -/
import Derived.Test.YtmbkpfkkohpnkaaLq
import Derived.Test.YtmbkpfkkohpnkaaFr
import Derived.SizedLaws
set_option linter.unusedVariables false
set_option linter.unusedSimpArgs false
namespace Go.Proofs.Ytmbkpfkkohpnkaa.rowFareMore
open Go Go.RowKit Go.ChangeShapes Go.WideShapes Go.ChangeAt Go.Deep Go.Joins

set_option maxRecDepth 100000 in
theorem rides_len {H : Type} {enc : TypeId × Value → H} {w : World} {base : Nat} {spare : Nat → Bool} {held : Bool} {v : Value} {d : DataW H} {p : List MemPlace} {l : List Rd} (h : DataW.Trod enc Try.prog w base spare held 25 v d p) (hr : RdsAt w v l) :
    l = [] ∨ ∃ el sp, d = .slice el sp ∧ el.length = l.length := by
  obtain ⟨fuel, h1⟩ := h
  obtain ⟨A, c, rfl, _⟩ := hr.form
  rcases open_slice Try.underlying25 h1 with ⟨h2, _⟩ | ⟨a, len, cap, m, n, D, Pl, h2, _, _, _, _, hx, _⟩
  · have e2 : Value.slice A l.length c = .slice none 0 0 := by simpa [Value.cells] using h2
    rw [Value.slice.injEq] at e2
    exact .inl (List.length_eq_zero_iff.1 e2.2.1)
  · have e2 : Value.slice A l.length c = .slice (some a) len cap := by simpa [Value.cells] using h2
    rw [Value.slice.injEq] at e2
    rw [Prod.mk.injEq] at hx
    exact .inr ⟨_, _, hx.1, by simp [e2.2.1]⟩
set_option maxRecDepth 100000 in
theorem lifted (os : Os) (started : os.Started) (H : Type) (enc : TypeId × Value → H) :
    ReturnsInHanded {} Try.checked os 7 .any (Rows.fareMoreSpec.pre6 enc Try.prog Try.f7 Rows.fareMoreRow.domain false) (Rows.fareMoreSpec.post enc Try.prog Try.f7 false true false false) := by
  refine returnsInHanded_of_change_sized (C := Try.checked) own started (by kernel_rfl) Try.func7
    (ChangeSpec.witness6 (enc := enc) (C := Try.checked) false ⟨#[], #[.agg #[.int .i64 0, .slice none 0 0, .slice none 0 0, .slice none 0 0, .int .i64 0], .slice none 0 0, .agg #[.int .i64 0, .int .i64 0, .int .i64 0, .int .i64 0], .int .u8 0], []⟩ 8 (by kernel_rfl) (by kernel_rfl) (by kernel_rfl) (by kernel_rfl)) ?_
  intro W base args ds gs before hval0 hW hcnd hsz _
  have hval : ∀ (j : Nat) t v, Try.f7.params[j]? = some t → args[j]? = some v → Value.okWide Try.prog W .any base t v := hval0
  have hW' := hW
  obtain ⟨p, q, hA0, hV, rfl, hfz, hnd⟩ := hW
  have hA : DataW.TrodAll enc Try.prog W 0 (fun _ => true) true Try.f7.params.toList args.toList ds p := hA0
  have hA1 := hA
  rw [Try.params7] at hA hval
  obtain ⟨v0, v1, v2, v3, e0, e1, e2, e3, p0, p1, p2, p3, rfl, rfl, rfl, h0, h1, h2, h3⟩ := trodAll_four hA
  obtain ⟨rfl, rfl⟩ := trodVars_none hV
  simp only [List.append_nil] at hW'
  obtain ⟨t0, a0, b0, c0, rfl, hT0⟩ := tariff_arg (hval 0 24 v0 rfl rfl) h0
  obtain ⟨l1, hr1⟩ := rides_arg (hval 1 25 v1 rfl rfl) h1
  obtain ⟨r2, rfl⟩ := ride_arg (hval 2 68 v2 rfl rfl) h2
  obtain ⟨a3, rfl, rfl, rfl, wf3⟩ := open_int Try.underlying5 (hval 3 5 v3 rfl rfl) h3
  obtain ⟨n3, rfl, hn3⟩ : ∃ n : Nat, a3 = (n : Int) ∧ n < 256 := by
    simp [Lit.wf, IntKind.min, IntKind.max, IntKind.signed, IntKind.bits] at wf3
    exact ⟨a3.toNat, by omega, by omega⟩
  have hl1 : l1.length * 32 ≤ 140737488351232 := by
    rcases rides_len h1 hr1 with rfl | ⟨el, sp, rfl, hn⟩
    · simp
    · have hs := sized_slice hsz (j := 1) (t := 25) (e := 68) (elems := el) (spare := sp) (by kernel_rfl) rfl Try.underlying25
      rw [show Try.checked.prog.bytesOf 68 = 32 by kernel_rfl, show reachBytes = 140737488351232 by rfl] at hs
      omega
  clear hA0 hval0 hA hsz
  refine (More_law t0 a0 b0 c0 _ l1 r2 n3 W hT0 hr1 hl1 hn3).mono fun e W' ⟨he, hb⟩ => ?_
  subst he
  exact ⟨_, rfl, law_post laidOut rfl hW' hA1 (by simp) (by kernel_rfl) (by kernel_rfl) Try.underlying4 rfl hb⟩

theorem over : Rows.fareMoreRow.holds Try.pinned (OpenSpec.ofChange Rows.fareMoreSpec) :=
  OpenClaim.holds_of_wide 7 Try.f7 rfl rfl rfl rfl rfl rfl rfl ⟨rfl, rfl, rfl, rfl, rfl⟩ rfl rfl rfl rfl rfl (by kernel_rfl) Try.func7 (by kernel_rfl)
    (of_decide_eq_true (by kernel_rfl)) (by unfold Func.isWrapper; first | (rw [if_pos (by decide +kernel)]; kernel_rfl) | (rw [if_neg (by decide +kernel)]; exact ⟨rfl, rfl⟩))
    (fun os started H enc _ => lifted os started H enc)

theorem proved : Rows.FareMoreSaid := over
end Go.Proofs.Ytmbkpfkkohpnkaa.rowFareMore
