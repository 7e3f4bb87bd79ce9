import Derived.Test.YtobeffjdfhkjeaaRows
import Derived.Test.YtobeffjdfhkjeaaMa
import Derived.ProofKit
import Derived.Deep.Slices
import Derived.Lib.SmallJoins
import Derived.Carry
set_option linter.unusedVariables false
set_option linter.unusedSimpArgs false
namespace Go.Proofs.Ytobeffjdfhkjeaa
open Go Go.RowKit Go.ChangeShapes Go.WideShapes Go.ChangeAt Go.Deep Go.Joins

/-! ### Arguments, opened -/
theorem list_of_each {α : Type} {n : Nat} {p : Nat → α → Prop} (h : ∀ i, i < n → ∃ a, p i a) : ∃ l : List α, l.length = n ∧ ∀ i a, l[i]? = some a → p i a := by
  induction n with
  | zero => exact ⟨[], rfl, by simp⟩
  | succ n ih =>
    obtain ⟨l, h1, h2⟩ := ih fun i hi => h i (by omega)
    obtain ⟨a, ha⟩ := h n (by omega)
    refine ⟨l ++ [a], by simp [h1], fun i b hb => ?_⟩
    rw [List.getElem?_append] at hb
    split at hb
    · exact h2 i b hb
    · rename_i hi
      have hlt := (List.getElem?_eq_some_iff.1 hb).1
      simp at hlt
      obtain rfl : i = n := by omega
      rw [h1] at hb
      simp at hb
      subst hb
      exact ha

section
variable {H : Type} {enc : TypeId × Value → H} {w : World} {base : Nat} {spare : Nat → Bool} {held : Bool}

theorem addr_none {a : Addr} {v : Value} (h : w.cell? a = some v) : a = ⟨a.block, a.off, none⟩ := by
  obtain ⟨b, o, s⟩ := a
  cases s with
  | none => rfl
  | some s =>
    unfold World.cell? at h
    split at h <;> simp at h

theorem nums_open {t e : TypeId} {K : IntKind} {fuel : Nat} {v : Value} {x : DataW H × List MemPlace} (ht : Try.prog.underlying t = some (.slice e)) (he : Try.prog.underlying e = some (.int K)) (hc : Try.prog.cellsOf e = 1)
    (h : DataW.trod enc Try.prog w base spare held fuel t [v] = some x) : ∃ l, NumsAt K w v l := by
  rcases open_ints ht he hc h with ⟨h1, _⟩ | ⟨a, len, cap, zs, h1, _, hl, hm, hz, _, hat, _⟩
  · obtain rfl : v = .slice none 0 0 := by simpa using h1
    exact ⟨[], none, 0, rfl, by simp, by simp [maxLen], by simp⟩
  · obtain rfl : v = .slice (some a) len cap := by simpa using h1
    have hzl : len ≤ zs.length := by rw [hz]; split <;> omega
    refine ⟨zs.take len, some a, cap, ?_, by simp; omega, hm, fun hp => ?_⟩
    · rw [List.length_take, Nat.min_eq_left hzl]
    · rw [List.length_take, Nat.min_eq_left hzl] at hp
      have h0 := hat 0 (by omega)
      rw [show a.add 0 = a by simp [Addr.add]] at h0
      have ha := addr_none h0
      refine ⟨a.block, a.off, by rw [← ha], fun k hk => ?_⟩
      rw [List.length_take, Nat.min_eq_left hzl] at hk
      have hk' := hat k (by omega)
      rw [ha] at hk'
      have e1 : (Addr.add ⟨a.block, a.off, none⟩ k) = ⟨a.block, a.off + k, none⟩ := by
        unfold Addr.add
        split
        · rename_i h; subst h; rfl
        · rfl
      rw [e1] at hk'
      rw [hk', List.getElem?_take, if_pos hk, List.getD_eq_getElem?_getD]

theorem add_none {b o k : Nat} : (Addr.add ⟨b, o, none⟩ k) = ⟨b, o + k, none⟩ := by
  unfold Addr.add
  split
  · rename_i h; subst h; rfl
  · rfl

theorem rows_open {fuel : Nat} {v : Value} {x : DataW H × List MemPlace} (h : DataW.trod enc Try.prog w base spare held fuel 25 [v] = some x) : ∃ ll, RowsAt w v ll := by
  have ce : Try.prog.cellsOf 35 = 1 := by kernel_rfl
  rcases open_slice Try.underlying25 h with ⟨h1, _⟩ | ⟨a, len, cap, m, n, D, Pl, h1, _, hl, hm, hmm, _, hat⟩
  · obtain rfl : v = .slice none 0 0 := by simpa using h1
    exact ⟨[], none, 0, rfl, by simp, by simp [maxLen], by simp⟩
  · obtain rfl : v = .slice (some a) len cap := by simpa using h1
    have hml : len ≤ m := by rw [hmm]; split <;> omega
    have hel : ∀ i, i < len → ∃ l, ∃ u, w.cell? (a.add i) = some u ∧ NumsAt .i64 w u l := fun i hi => by
      obtain ⟨cs, hc, ht⟩ := hat i (by omega)
      rw [ce] at hc
      obtain ⟨_, hcl, hci⟩ := World.cells?_some hc
      match cs, hcl with
      | [u], _ =>
        obtain ⟨l, hl⟩ := nums_open Try.underlying35 Try.underlying3 (by kernel_rfl) ht
        have := hci 0 (by omega)
        exact ⟨l, u, by simpa [Addr.add] using this, hl⟩
    obtain ⟨ll, hll, hp⟩ := list_of_each hel
    refine ⟨ll, some a, cap, by rw [hll], by omega, hm, fun hp0 => ?_⟩
    obtain ⟨u0, hu0, _⟩ := hp 0 _ (List.getElem?_eq_getElem (by omega))
    rw [show a.add 0 = a by simp [Addr.add]] at hu0
    have ha := addr_none hu0
    refine ⟨a.block, a.off, by rw [← ha], fun k hk => ?_⟩
    obtain ⟨u, hu, hn⟩ := hp k _ (List.getElem?_eq_getElem hk)
    rw [ha, add_none] at hu
    exact ⟨u, hu, by rw [List.getElem?_eq_getElem hk]; exact hn⟩

theorem strata_open {fuel : Nat} {v : Value} {x : DataW H × List MemPlace} (h : DataW.trod enc Try.prog w base spare held fuel 22 [v] = some x) : ∃ ss, StrataAt w v ss := by
  have ce : Try.prog.cellsOf 44 = 4 := by kernel_rfl
  rcases open_slice Try.underlying22 h with ⟨h1, _⟩ | ⟨a, len, cap, m, n, D, Pl, h1, _, hl, hm, hmm, _, hat⟩
  · obtain rfl : v = .slice none 0 0 := by simpa using h1
    exact ⟨[], none, 0, rfl, by simp, by simp [maxLen], by simp⟩
  · obtain rfl : v = .slice (some a) len cap := by simpa using h1
    have hml : len ≤ m := by rw [hmm]; split <;> omega
    have hel : ∀ i, i < len → ∃ s : Strat, ∃ u, NumsAt .i64 w u s.seen ∧ w.cell? (a.add (i * 4)) = some (.int .i64 s.coins) ∧ w.cell? ((a.add (i * 4)).add 1) = some (.int .i64 s.lo) ∧
        w.cell? ((a.add (i * 4)).add 2) = some (.int .i64 s.hi) ∧ w.cell? ((a.add (i * 4)).add 3) = some u := fun i hi => by
      obtain ⟨cs, hc, ht⟩ := hat i (by omega)
      rw [ce] at hc
      obtain ⟨_, hcl, hci⟩ := World.cells?_some hc
      match cs, hcl with
      | [c0, c1, c2, c3], _ =>
        obtain ⟨xs, n', _, _, _, hxl, hf⟩ := DataW.trod_struct Try.underlying44 ht
        match xs, hxl with
        | [x0, x1, x2], _ =>
          have f0 : DataW.trod enc Try.prog w base spare held n' 3 (List.take (Try.prog.cellsOf 3) (List.drop 0 [c0, c1, c2, c3])) = some x0 := hf 0 _ rfl
          have f1 : DataW.trod enc Try.prog w base spare held n' 42 (List.take (Try.prog.cellsOf 42) (List.drop 1 [c0, c1, c2, c3])) = some x1 := hf 1 _ rfl
          have f2 : DataW.trod enc Try.prog w base spare held n' 35 (List.take (Try.prog.cellsOf 35) (List.drop 3 [c0, c1, c2, c3])) = some x2 := hf 2 _ rfl
          simp only [show Try.prog.cellsOf 3 = 1 by kernel_rfl, show Try.prog.cellsOf 42 = 2 by kernel_rfl, show Try.prog.cellsOf 35 = 1 by kernel_rfl, List.drop_zero, List.drop_succ_cons, List.take_succ_cons, List.take_zero,
            List.getElem?_cons_zero, List.getElem?_cons_succ] at f0 f1 f2
          obtain ⟨ys, n2, _, _, _, hyl, hg⟩ := DataW.trod_struct Try.underlying42 f1
          match ys, hyl with
          | [y0, y1], _ =>
            have g0 : DataW.trod enc Try.prog w base spare held n2 3 (List.take (Try.prog.cellsOf 3) (List.drop 0 [c1, c2])) = some y0 := hg 0 _ rfl
            have g1 : DataW.trod enc Try.prog w base spare held n2 3 (List.take (Try.prog.cellsOf 3) (List.drop 1 [c1, c2])) = some y1 := hg 1 _ rfl
            simp only [show Try.prog.cellsOf 3 = 1 by kernel_rfl, List.drop_zero, List.drop_succ_cons, List.take_succ_cons, List.take_zero, List.getElem?_cons_zero, List.getElem?_cons_succ] at g0 g1
            obtain ⟨k0, ek0, _⟩ := DataW.trod_int Try.underlying3 f0
            obtain rfl : c0 = .int .i64 k0 := (List.cons.inj ek0).1
            obtain ⟨k1, ek1, _⟩ := DataW.trod_int Try.underlying3 g0
            obtain rfl : c1 = .int .i64 k1 := (List.cons.inj ek1).1
            obtain ⟨k2, ek2, _⟩ := DataW.trod_int Try.underlying3 g1
            obtain rfl : c2 = .int .i64 k2 := (List.cons.inj ek2).1
            obtain ⟨l, hl⟩ := nums_open Try.underlying35 Try.underlying3 (by kernel_rfl) f2
            exact ⟨⟨k0, k1, k2, l⟩, c3, hl, hci 0 (by omega), hci 1 (by omega), hci 2 (by omega), hci 3 (by omega)⟩
    obtain ⟨ss, hss, hp⟩ := list_of_each hel
    refine ⟨ss, some a, cap, by rw [hss], by omega, hm, fun hp0 => ?_⟩
    obtain ⟨u0, _, hu0, _⟩ := hp 0 _ (List.getElem?_eq_getElem (by omega))
    rw [show a.add (0 * 4) = a by simp [Addr.add]] at hu0
    have ha := addr_none hu0
    refine ⟨a.block, a.off, by rw [← ha], fun k s hk => ?_⟩
    obtain ⟨u, hn, h0, h1, h2, h3⟩ := hp k s hk
    rw [ha] at h0 h1 h2 h3
    simp only [add_none] at h0 h1 h2 h3
    exact ⟨u, hn, h0, h1, h2, h3⟩

theorem nums_openW {t e : TypeId} {fuel : Nat} {v : Value} {x : DataW H × List MemPlace} (ht : Try.prog.underlying t = some (.slice e)) (he : Try.prog.underlying e = some (.int .u16)) (hc : Try.prog.cellsOf e = 1)
    (h : DataW.trod enc Try.prog w base spare held fuel t [v] = some x) : ∃ l, NumsAt .u16 w v l ∧ ∀ x ∈ l, 0 ≤ x ∧ x ≤ 65535 := by
  rcases open_ints ht he hc h with ⟨h1, _⟩ | ⟨a, len, cap, zs, h1, _, hl, hm, hz, _, hat, hwf⟩
  · obtain rfl : v = .slice none 0 0 := by simpa using h1
    exact ⟨[], ⟨none, 0, rfl, by simp, by simp [maxLen], by simp⟩, by simp⟩
  · obtain rfl : v = .slice (some a) len cap := by simpa using h1
    have hzl : len ≤ zs.length := by rw [hz]; split <;> omega
    refine ⟨zs.take len, ⟨some a, cap, ?_, by simp; omega, hm, fun hp => ?_⟩, fun y hy => ?_⟩
    · rw [List.length_take, Nat.min_eq_left hzl]
    · rw [List.length_take, Nat.min_eq_left hzl] at hp
      have h0 := hat 0 (by omega)
      rw [show a.add 0 = a by simp [Addr.add]] at h0
      have ha := addr_none h0
      refine ⟨a.block, a.off, by rw [← ha], fun k hk => ?_⟩
      rw [List.length_take, Nat.min_eq_left hzl] at hk
      have hk' := hat k (by omega)
      rw [ha] at hk'
      have e1 : (Addr.add ⟨a.block, a.off, none⟩ k) = ⟨a.block, a.off + k, none⟩ := by
        unfold Addr.add
        split
        · rename_i h; subst h; rfl
        · rfl
      rw [e1] at hk'
      rw [hk', List.getElem?_take, if_pos hk, List.getD_eq_getElem?_getD]
    · have := hwf y (List.mem_of_mem_take hy)
      simp [Lit.wf, IntKind.min, IntKind.max, IntKind.signed, IntKind.bits] at this
      omega
end
end Go.Proofs.Ytobeffjdfhkjeaa
