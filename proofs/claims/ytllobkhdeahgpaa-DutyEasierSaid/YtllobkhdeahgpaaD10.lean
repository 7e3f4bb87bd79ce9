import Derived.Test.YtllobkhdeahgpaaK5
set_option linter.unusedVariables false
set_option linter.unusedSimpArgs false
namespace Go.Proofs.Ytllobkhdeahgpaa
open Go Go.Proofs Go.RowKit

/-! ### best, ordered -/
theorem bestN_eq {d : DDay} (h : (bestV d).can = true) : bestN d = ((bestP d).length : Int) := by unfold bestN; rw [h]; rfl
set_option maxRecDepth 100000 in
theorem best_any (d : DDay) (u z : Value) (w : World) (hda : DayAt w u z d) (hm : Mild d) (hf : (faultD d != 0) = false) :
    Calls Try.prog 23 #[.agg #[.int .i64 d.law.piece, .int .i64 d.law.drive, .int .i64 d.law.spread, .int .i64 d.law.brk, .int .i64 d.law.on, .int .i64 d.law.off, .int .i64 d.law.least, .int .i64 d.law.pieces, u, z]] w (Gives w (.int .i64 (bestN d))) := by
  obtain ⟨A1, c1, rfl, hc1, hm1⟩ := hda.blocks.form
  obtain ⟨A2, c2, rfl, hc2, hm2⟩ := hda.walk.form
  have hb0 : Below w.heap.size w (w.alloc (.cells #[.int .i64 d.law.piece, .int .i64 d.law.drive, .int .i64 d.law.spread, .int .i64 d.law.brk, .int .i64 d.law.on, .int .i64 d.law.off, .int .i64 d.law.least, .int .i64 d.law.pieces, .slice A1 d.blocks.length c1, .slice A2 d.walk.length c2] 27)) := (Below.refl _ _).alloc (Nat.le_refl _) _
  have Hd := Lib.hid (DayC_any d _ _ _ (hda.below hb0) hm)
  have Hf := Lib.hid hf
  clear hda hf
  go_enter Try.func23, Try.ntmps23
  go_wp2_with fail
  refine Hd.out.mono ?_
  rintro e w1 ⟨B1, B2, e1, e2, rfl, hd1, hb1⟩
  have hw1 := hb0.trans (hb1.mono hb0.size)
  clear Hd
  go_wp2_with fail
  refine (Best_any d _ _ _ hd1 hm).mono ?_
  rintro e w2 ⟨hb2, _, hn, hy⟩
  have hw2 := hw1.trans (hb2.mono hw1.size)
  cases hc : (bestV d).can with
  | false =>
    have he := hn Hf.out hc
    subst he
    have Hb := Lib.hid (show bestN d = 1000 by unfold bestN; rw [hc]; rfl)
    clear hn hy hc
    go_wp2
    go_ret
    exact gives_int Hb.out.symm hw2
  | true =>
    obtain ⟨A, c, he, _⟩ := hy Hf.out hc
    subst he
    have Hb := Lib.hid (bestN_eq hc)
    clear hn hy hc
    go_wp2
    go_ret
    exact gives_int Hb.out.symm hw2
end Go.Proofs.Ytllobkhdeahgpaa
