import Derived.Test.YtckgapeednokjaaGreatFr
import Derived.Test.YtckgapeednokjaaGreatUc
set_option linter.unusedVariables false
set_option linter.unusedSimpArgs false
namespace Go.Proofs.YtckgapeednokjaaGreat
open Go Go.RowKit Go.ChangeShapes Go.WideShapes Go.ChangeAt Go.Deep Go.Joins

/-! ### Records: an argument, opened -/
section
variable {H : Type} {enc : TypeId × Value → H} {w W : World} {base : Nat} {spare : Nat → Bool} {held : Bool}
set_option maxRecDepth 100000 in
theorem recs_open {fuel : Nat} {v : Value} {x : DataW H × List MemPlace} (h : DataW.trod enc Tryz.prog w base spare held fuel 22 [v] = some x) : ∃ rs, RecsAt w v rs := by
  have ce : Tryz.prog.cellsOf 31 = 6 := by kernel_rfl
  have one : Tryz.prog.cellsOf 3 = 1 := by kernel_rfl
  have one8 : Tryz.prog.cellsOf 5 = 1 := by kernel_rfl
  rcases open_slice Tryz.underlying22 h with ⟨h1, _⟩ | ⟨a, len, cap, m, n, D, Pl, h1, _, hl, hm, hmm, _, hat⟩
  · obtain rfl : v = .slice none 0 0 := by simpa using h1
    exact ⟨[], none, 0, rfl, by simp, by simp [maxLen], by simp⟩
  · obtain rfl : v = .slice (some a) len cap := by simpa using h1
    have hml : len ≤ m := by rw [hmm]; split <;> omega
    have hel : ∀ i, i < len → ∃ s : Rc, w.cell? (a.add (i * 6)) = some (.int .i64 s.mac) ∧ w.cell? ((a.add (i * 6)).add 1) = some (.int .i64 s.seq) ∧ w.cell? ((a.add (i * 6)).add 2) = some (.int .i64 s.min) ∧ w.cell? ((a.add (i * 6)).add 3) = some (.int .u8 s.kind) ∧ w.cell? ((a.add (i * 6)).add 4) = some (.int .i64 s.a) ∧ w.cell? ((a.add (i * 6)).add 5) = some (.int .i64 s.b) := fun i hi => by
      obtain ⟨cs, hc, ht⟩ := hat i (by omega)
      rw [ce] at hc
      obtain ⟨_, hcl, hci⟩ := World.cells?_some hc
      match cs, hcl with
      | [c0, c1, c2, c3, c4, c5], _ =>
        obtain ⟨xs, n', _, _, _, hxl, hf⟩ := DataW.trod_struct Tryz.underlying31 ht
        have key : ∀ (c : Value) (y : DataW H × List MemPlace), DataW.trod enc Tryz.prog w base spare held n' 3 [c] = some y → ∃ z, c = .int .i64 z := fun c y hy => by
          obtain ⟨z, ez, _⟩ := DataW.trod_int Tryz.underlying3 hy
          exact ⟨z, (List.cons.inj ez).1⟩
        have key8 : ∀ (c : Value) (y : DataW H × List MemPlace), DataW.trod enc Tryz.prog w base spare held n' 5 [c] = some y → ∃ z, c = .int .u8 z := fun c y hy => by
          obtain ⟨z, ez, _⟩ := DataW.trod_int Tryz.underlying5 hy
          exact ⟨z, (List.cons.inj ez).1⟩
        have hx : xs.length = 6 := hxl
        match xs, hx with
        | [x0, x1, x2, x3, x4, x5], _ =>
          have f0 : DataW.trod enc Tryz.prog w base spare held n' 3 (List.take (Tryz.prog.cellsOf 3) (List.drop 0 [c0, c1, c2, c3, c4, c5])) = some x0 := hf 0 _ rfl
          have f1 : DataW.trod enc Tryz.prog w base spare held n' 3 (List.take (Tryz.prog.cellsOf 3) (List.drop 1 [c0, c1, c2, c3, c4, c5])) = some x1 := hf 1 _ rfl
          have f2 : DataW.trod enc Tryz.prog w base spare held n' 3 (List.take (Tryz.prog.cellsOf 3) (List.drop 2 [c0, c1, c2, c3, c4, c5])) = some x2 := hf 2 _ rfl
          have f3 : DataW.trod enc Tryz.prog w base spare held n' 5 (List.take (Tryz.prog.cellsOf 5) (List.drop 3 [c0, c1, c2, c3, c4, c5])) = some x3 := hf 3 _ rfl
          have f4 : DataW.trod enc Tryz.prog w base spare held n' 3 (List.take (Tryz.prog.cellsOf 3) (List.drop 4 [c0, c1, c2, c3, c4, c5])) = some x4 := hf 4 _ rfl
          have f5 : DataW.trod enc Tryz.prog w base spare held n' 3 (List.take (Tryz.prog.cellsOf 3) (List.drop 5 [c0, c1, c2, c3, c4, c5])) = some x5 := hf 5 _ rfl
          simp only [one, one8, List.drop_zero, List.drop_succ_cons, List.take_succ_cons, List.take_zero] at f0 f1 f2 f3 f4 f5
          obtain ⟨z0, e0⟩ := key _ _ f0
          obtain ⟨z1, e1⟩ := key _ _ f1
          obtain ⟨z2, e2⟩ := key _ _ f2
          obtain ⟨z3, e3⟩ := key8 _ _ f3
          obtain ⟨z4, e4⟩ := key _ _ f4
          obtain ⟨z5, e5⟩ := key _ _ f5
          subst e0 e1 e2 e3 e4 e5
          exact ⟨⟨z0, z1, z2, z3, z4, z5⟩, by simpa [Addr.add] using hci 0 (by omega), hci 1 (by omega), hci 2 (by omega), hci 3 (by omega), hci 4 (by omega), hci 5 (by omega)⟩
    obtain ⟨rs, hrs, hp⟩ := list_of_each hel
    refine ⟨rs, some a, cap, by rw [hrs], by omega, hm, fun hp0 => ?_⟩
    obtain ⟨h00, _⟩ := hp 0 _ (List.getElem?_eq_getElem (by omega))
    rw [show a.add (0 * 6) = a by simp [Addr.add]] at h00
    have ha := addr_none h00
    refine ⟨a.block, a.off, by rw [← ha], fun k s hk => ?_⟩
    obtain ⟨h0, h1, h2, h3, h4, h5⟩ := hp k s hk
    rw [ha] at h0 h1 h2 h3 h4 h5
    simp only [add_none] at h0 h1 h2 h3 h4 h5
    exact ⟨h0, h1, h2, h3, h4, h5⟩
set_option maxRecDepth 100000 in
theorem recs_arg {r : Reach} {b0 : Nat} {v : Value} {d : DataW H} {p : List MemPlace}
    (hv : Value.okWide Tryz.prog W r b0 22 v) (h : DataW.Trod enc Tryz.prog W base spare held 22 v d p) : ∃ rs, RecsAt W v rs := by
  obtain ⟨a, len, cap, rfl⟩ := okWide_slice Tryz.underlying22 hv
  obtain ⟨fuel, h1⟩ := h
  exact recs_open h1
end
end Go.Proofs.YtckgapeednokjaaGreat
