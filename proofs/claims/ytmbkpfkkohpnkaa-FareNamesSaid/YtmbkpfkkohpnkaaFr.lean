import Derived.Test.YtmbkpfkkohpnkaaRows
import Derived.Test.YtmbkpfkkohpnkaaUa
import Derived.ProofKit
import Derived.Deep.Slices
import Derived.Lib.SmallJoins
import Derived.Carry
import Derived.Below
import Derived.ChangeSame
import Derived.OpenShut
import Derived.WideKeyArgs
set_option linter.unusedVariables false
set_option linter.unusedSimpArgs false
namespace Go.Proofs.Ytmbkpfkkohpnkaa
open Go Go.RowKit Go.ChangeShapes Go.WideShapes Go.ChangeAt Go.Deep Go.Joins

/-! ### Arguments, opened -/
theorem list_of_each {α : Type} {n : Nat} {p : Nat → α → Prop} (h : ∀ i, i < n → ∃ a, p i a) : ∃ l : List α, l.length = n ∧ ∀ i a, l[i]? = some a → p i a := by
  induction n with
  | zero => exact ⟨[], rfl, by simp⟩
  | succ n ih =>
    obtain ⟨l, h1, h2⟩ := ih fun i hi => h i (by omega)
    obtain ⟨a, ha⟩ := h n (by omega)
    refine ⟨l ++ [a], by simp [h1], fun i b hb => ?_⟩
    rw [List.getElem?_append] at hb
    split at hb
    · exact h2 i b hb
    · rename_i hi
      have hlt := (List.getElem?_eq_some_iff.1 hb).1
      simp at hlt
      obtain rfl : i = n := by omega
      rw [h1] at hb
      simp at hb
      subst hb
      exact ha

section
variable {H : Type} {enc : TypeId × Value → H} {w : World} {base : Nat} {spare : Nat → Bool} {held : Bool}

theorem addr_none {a : Addr} {v : Value} (h : w.cell? a = some v) : a = ⟨a.block, a.off, none⟩ := by
  obtain ⟨b, o, s⟩ := a
  cases s with
  | none => rfl
  | some s =>
    unfold World.cell? at h
    split at h <;> simp at h

theorem nums_open {t e : TypeId} {K : IntKind} {fuel : Nat} {v : Value} {x : DataW H × List MemPlace} (ht : Try.prog.underlying t = some (.slice e)) (he : Try.prog.underlying e = some (.int K)) (hc : Try.prog.cellsOf e = 1)
    (h : DataW.trod enc Try.prog w base spare held fuel t [v] = some x) : ∃ l, NumsAt K w v l := by
  rcases open_ints ht he hc h with ⟨h1, _⟩ | ⟨a, len, cap, zs, h1, _, hl, hm, hz, _, hat, _⟩
  · obtain rfl : v = .slice none 0 0 := by simpa using h1
    exact ⟨[], none, 0, rfl, by simp, by simp [maxLen], by simp⟩
  · obtain rfl : v = .slice (some a) len cap := by simpa using h1
    have hzl : len ≤ zs.length := by rw [hz]; split <;> omega
    refine ⟨zs.take len, some a, cap, ?_, by simp; omega, hm, fun hp => ?_⟩
    · rw [List.length_take, Nat.min_eq_left hzl]
    · rw [List.length_take, Nat.min_eq_left hzl] at hp
      have h0 := hat 0 (by omega)
      rw [show a.add 0 = a by simp [Addr.add]] at h0
      have ha := addr_none h0
      refine ⟨a.block, a.off, by rw [← ha], fun k hk => ?_⟩
      rw [List.length_take, Nat.min_eq_left hzl] at hk
      have hk' := hat k (by omega)
      rw [ha] at hk'
      have e1 : (Addr.add ⟨a.block, a.off, none⟩ k) = ⟨a.block, a.off + k, none⟩ := by
        unfold Addr.add
        split
        · rename_i h; subst h; rfl
        · rfl
      rw [e1] at hk'
      rw [hk', List.getElem?_take, if_pos hk, List.getD_eq_getElem?_getD]

theorem add_none {b o k : Nat} : (Addr.add ⟨b, o, none⟩ k) = ⟨b, o + k, none⟩ := by
  unfold Addr.add
  split
  · rename_i h; subst h; rfl
  · rfl

theorem rides_open {fuel : Nat} {v : Value} {x : DataW H × List MemPlace} (h : DataW.trod enc Try.prog w base spare held fuel 25 [v] = some x) : ∃ rs, RdsAt w v rs := by
  have ce : Try.prog.cellsOf 68 = 4 := by kernel_rfl
  rcases open_slice Try.underlying25 h with ⟨h1, _⟩ | ⟨a, len, cap, m, n, D, Pl, h1, _, hl, hm, hmm, _, hat⟩
  · obtain rfl : v = .slice none 0 0 := by simpa using h1
    exact ⟨[], ⟨none, 0, rfl, by simp, by simp [maxLen], by simp⟩⟩
  · obtain rfl : v = .slice (some a) len cap := by simpa using h1
    have hml : len ≤ m := by rw [hmm]; split <;> omega
    have hel : ∀ i, i < len → ∃ s : Rd, w.cell? (a.add (i * 4)) = some (.int .i64 s.day) ∧ w.cell? ((a.add (i * 4)).add 1) = some (.int .i64 s.minute) ∧ w.cell? ((a.add (i * 4)).add 2) = some (.int .i64 s.low) ∧ w.cell? ((a.add (i * 4)).add 3) = some (.int .i64 s.high) := fun i hi => by
      obtain ⟨cs, hc, ht⟩ := hat i (by omega)
      rw [ce] at hc
      obtain ⟨_, hcl, hci⟩ := World.cells?_some hc
      match cs, hcl with
      | [c0, c1, c2, c3], _ =>
        obtain ⟨xs, n, _, _, _, hxl, hf⟩ := DataW.trod_struct Try.underlying68 ht
        match xs, hxl with
        | [x0, x1, x2, x3], _ =>
          have f0 : DataW.trod enc Try.prog w base spare held n 3 (List.take (Try.prog.cellsOf 3) (List.drop 0 [c0, c1, c2, c3])) = some x0 := hf 0 _ rfl
          have f1 : DataW.trod enc Try.prog w base spare held n 3 (List.take (Try.prog.cellsOf 3) (List.drop 1 [c0, c1, c2, c3])) = some x1 := hf 1 _ rfl
          have f2 : DataW.trod enc Try.prog w base spare held n 3 (List.take (Try.prog.cellsOf 3) (List.drop 2 [c0, c1, c2, c3])) = some x2 := hf 2 _ rfl
          have f3 : DataW.trod enc Try.prog w base spare held n 3 (List.take (Try.prog.cellsOf 3) (List.drop 3 [c0, c1, c2, c3])) = some x3 := hf 3 _ rfl
          simp only [show Try.prog.cellsOf 3 = 1 by kernel_rfl, List.drop_zero, List.drop_succ_cons, List.take_succ_cons, List.take_zero] at f0 f1 f2 f3
          obtain ⟨k0, ek0, wk0⟩ := DataW.trod_int Try.underlying3 f0
          obtain rfl : c0 = .int .i64 k0 := (List.cons.inj ek0).1
          obtain ⟨k1, ek1, wk1⟩ := DataW.trod_int Try.underlying3 f1
          obtain rfl : c1 = .int .i64 k1 := (List.cons.inj ek1).1
          obtain ⟨k2, ek2, wk2⟩ := DataW.trod_int Try.underlying3 f2
          obtain rfl : c2 = .int .i64 k2 := (List.cons.inj ek2).1
          obtain ⟨k3, ek3, wk3⟩ := DataW.trod_int Try.underlying3 f3
          obtain rfl : c3 = .int .i64 k3 := (List.cons.inj ek3).1
          exact ⟨⟨k0, k1, k2, k3⟩, hci 0 (by omega), hci 1 (by omega), hci 2 (by omega), hci 3 (by omega)⟩
    obtain ⟨rs, hrs, hp⟩ := list_of_each hel
    refine ⟨rs, some a, cap, by rw [hrs], by omega, hm, fun hp0 => ?_⟩
    obtain ⟨h00, _⟩ := hp 0 _ (List.getElem?_eq_getElem (by omega))
    rw [show a.add (0 * 4) = a by simp [Addr.add]] at h00
    have ha := addr_none h00
    refine ⟨a.block, a.off, by rw [← ha], fun k s hk => ?_⟩
    obtain ⟨h0, h1, h2, h3⟩ := hp k s hk
    rw [ha] at h0 h1 h2 h3
    simp only [add_none] at h0 h1 h2 h3
    exact ⟨h0, h1, h2, h3⟩
theorem taps_open {fuel : Nat} {v : Value} {x : DataW H × List MemPlace} (h : DataW.trod enc Try.prog w base spare held fuel 46 [v] = some x) : ∃ rs, TpsAt w v rs := by
  have ce : Try.prog.cellsOf 75 = 7 := by kernel_rfl
  rcases open_slice Try.underlying46 h with ⟨h1, _⟩ | ⟨a, len, cap, m, n, D, Pl, h1, _, hl, hm, hmm, _, hat⟩
  · obtain rfl : v = .slice none 0 0 := by simpa using h1
    exact ⟨[], ⟨none, 0, rfl, by simp, by simp [maxLen], by simp⟩⟩
  · obtain rfl : v = .slice (some a) len cap := by simpa using h1
    have hml : len ≤ m := by rw [hmm]; split <;> omega
    have hel : ∀ i, i < len → ∃ s : Tp, w.cell? (a.add (i * 7)) = some (.int .i64 s.machine) ∧ w.cell? ((a.add (i * 7)).add 1) = some (.int .i64 s.number) ∧ w.cell? ((a.add (i * 7)).add 2) = some (.int .i64 s.card) ∧ w.cell? ((a.add (i * 7)).add 3) = some (.int .i64 s.ride.day) ∧ w.cell? ((a.add (i * 7)).add 4) = some (.int .i64 s.ride.minute) ∧ w.cell? ((a.add (i * 7)).add 5) = some (.int .i64 s.ride.low) ∧ w.cell? ((a.add (i * 7)).add 6) = some (.int .i64 s.ride.high) := fun i hi => by
      obtain ⟨cs, hc, ht⟩ := hat i (by omega)
      rw [ce] at hc
      obtain ⟨_, hcl, hci⟩ := World.cells?_some hc
      match cs, hcl with
      | [c0, c1, c2, c3, c4, c5, c6], _ =>
        obtain ⟨xs, n, _, _, _, hxl, hf⟩ := DataW.trod_struct Try.underlying75 ht
        match xs, hxl with
        | [x0, x1, x2, x3], _ =>
          have f0 : DataW.trod enc Try.prog w base spare held n 3 (List.take (Try.prog.cellsOf 3) (List.drop 0 [c0, c1, c2, c3, c4, c5, c6])) = some x0 := hf 0 _ rfl
          have f1 : DataW.trod enc Try.prog w base spare held n 3 (List.take (Try.prog.cellsOf 3) (List.drop 1 [c0, c1, c2, c3, c4, c5, c6])) = some x1 := hf 1 _ rfl
          have f2 : DataW.trod enc Try.prog w base spare held n 3 (List.take (Try.prog.cellsOf 3) (List.drop 2 [c0, c1, c2, c3, c4, c5, c6])) = some x2 := hf 2 _ rfl
          have f3 : DataW.trod enc Try.prog w base spare held n 68 (List.take (Try.prog.cellsOf 68) (List.drop 3 [c0, c1, c2, c3, c4, c5, c6])) = some x3 := hf 3 _ rfl
          simp only [show Try.prog.cellsOf 3 = 1 by kernel_rfl, show Try.prog.cellsOf 68 = 4 by kernel_rfl, List.drop_zero, List.drop_succ_cons, List.take_succ_cons, List.take_zero] at f0 f1 f2 f3
          obtain ⟨xsy, ny, _, _, _, hxly, hfy⟩ := DataW.trod_struct Try.underlying68 f3
          match xsy, hxly with
          | [xy0, xy1, xy2, xy3], _ =>
            have fy0 : DataW.trod enc Try.prog w base spare held ny 3 (List.take (Try.prog.cellsOf 3) (List.drop 0 [c3, c4, c5, c6])) = some xy0 := hfy 0 _ rfl
            have fy1 : DataW.trod enc Try.prog w base spare held ny 3 (List.take (Try.prog.cellsOf 3) (List.drop 1 [c3, c4, c5, c6])) = some xy1 := hfy 1 _ rfl
            have fy2 : DataW.trod enc Try.prog w base spare held ny 3 (List.take (Try.prog.cellsOf 3) (List.drop 2 [c3, c4, c5, c6])) = some xy2 := hfy 2 _ rfl
            have fy3 : DataW.trod enc Try.prog w base spare held ny 3 (List.take (Try.prog.cellsOf 3) (List.drop 3 [c3, c4, c5, c6])) = some xy3 := hfy 3 _ rfl
            simp only [show Try.prog.cellsOf 3 = 1 by kernel_rfl, List.drop_zero, List.drop_succ_cons, List.take_succ_cons, List.take_zero] at fy0 fy1 fy2 fy3
            obtain ⟨k0, ek0, wk0⟩ := DataW.trod_int Try.underlying3 f0
            obtain rfl : c0 = .int .i64 k0 := (List.cons.inj ek0).1
            obtain ⟨k1, ek1, wk1⟩ := DataW.trod_int Try.underlying3 f1
            obtain rfl : c1 = .int .i64 k1 := (List.cons.inj ek1).1
            obtain ⟨k2, ek2, wk2⟩ := DataW.trod_int Try.underlying3 f2
            obtain rfl : c2 = .int .i64 k2 := (List.cons.inj ek2).1
            obtain ⟨k3, ek3, wk3⟩ := DataW.trod_int Try.underlying3 fy0
            obtain rfl : c3 = .int .i64 k3 := (List.cons.inj ek3).1
            obtain ⟨k4, ek4, wk4⟩ := DataW.trod_int Try.underlying3 fy1
            obtain rfl : c4 = .int .i64 k4 := (List.cons.inj ek4).1
            obtain ⟨k5, ek5, wk5⟩ := DataW.trod_int Try.underlying3 fy2
            obtain rfl : c5 = .int .i64 k5 := (List.cons.inj ek5).1
            obtain ⟨k6, ek6, wk6⟩ := DataW.trod_int Try.underlying3 fy3
            obtain rfl : c6 = .int .i64 k6 := (List.cons.inj ek6).1
            exact ⟨⟨k0, k1, k2, ⟨k3, k4, k5, k6⟩⟩, hci 0 (by omega), hci 1 (by omega), hci 2 (by omega), hci 3 (by omega), hci 4 (by omega), hci 5 (by omega), hci 6 (by omega)⟩
    obtain ⟨rs, hrs, hp⟩ := list_of_each hel
    refine ⟨rs, some a, cap, by rw [hrs], by omega, hm, fun hp0 => ?_⟩
    obtain ⟨h00, _⟩ := hp 0 _ (List.getElem?_eq_getElem (by omega))
    rw [show a.add (0 * 7) = a by simp [Addr.add]] at h00
    have ha := addr_none h00
    refine ⟨a.block, a.off, by rw [← ha], fun k s hk => ?_⟩
    obtain ⟨h0, h1, h2, h3, h4, h5, h6⟩ := hp k s hk
    rw [ha] at h0 h1 h2 h3 h4 h5 h6
    simp only [add_none] at h0 h1 h2 h3 h4 h5 h6
    exact ⟨h0, h1, h2, h3, h4, h5, h6⟩
theorem DataW.trod_wf8 {fuel : Nat} {z : Int} {x : DataW H × List MemPlace} (h : DataW.trod enc Try.prog w base spare held fuel 5 [.int .u8 z] = some x) : 0 ≤ z ∧ z < 256 := by
  cases fuel with
  | zero => simp [DataW.trod] at h
  | succ n =>
    simp only [DataW.trod, Try.underlying5] at h
    simp only [Option.ite_none_right_eq_some] at h
    have := h.1
    simp [Lit.wf, IntKind.min, IntKind.max, IntKind.signed, IntKind.bits] at this
    omega
theorem tickets_open {fuel : Nat} {v : Value} {x : DataW H × List MemPlace} (h : DataW.trod enc Try.prog w base spare held fuel 41 [v] = some x) : ∃ rs, TksAt w v rs ∧ ∀ x ∈ rs, x.kind < 256 := by
  have ce : Try.prog.cellsOf 101 = 5 := by kernel_rfl
  rcases open_slice Try.underlying41 h with ⟨h1, _⟩ | ⟨a, len, cap, m, n, D, Pl, h1, _, hl, hm, hmm, _, hat⟩
  · obtain rfl : v = .slice none 0 0 := by simpa using h1
    exact ⟨[], ⟨⟨none, 0, rfl, by simp, by simp [maxLen], by simp⟩, by simp⟩⟩
  · obtain rfl : v = .slice (some a) len cap := by simpa using h1
    have hml : len ≤ m := by rw [hmm]; split <;> omega
    have hel : ∀ i, i < len → ∃ s : Tk, w.cell? (a.add (i * 5)) = some (.int .u8 (s.kind : Int)) ∧ w.cell? ((a.add (i * 5)).add 1) = some (.int .i64 s.low) ∧ w.cell? ((a.add (i * 5)).add 2) = some (.int .i64 s.high) ∧ w.cell? ((a.add (i * 5)).add 3) = some (.int .i64 s.day) ∧ w.cell? ((a.add (i * 5)).add 4) = some (.int .i64 s.minute) ∧ s.kind < 256 := fun i hi => by
      obtain ⟨cs, hc, ht⟩ := hat i (by omega)
      rw [ce] at hc
      obtain ⟨_, hcl, hci⟩ := World.cells?_some hc
      match cs, hcl with
      | [c0, c1, c2, c3, c4], _ =>
        obtain ⟨xs, n, _, _, _, hxl, hf⟩ := DataW.trod_struct Try.underlying101 ht
        match xs, hxl with
        | [x0, x1, x2, x3, x4], _ =>
          have f0 : DataW.trod enc Try.prog w base spare held n 5 (List.take (Try.prog.cellsOf 5) (List.drop 0 [c0, c1, c2, c3, c4])) = some x0 := hf 0 _ rfl
          have f1 : DataW.trod enc Try.prog w base spare held n 3 (List.take (Try.prog.cellsOf 3) (List.drop 1 [c0, c1, c2, c3, c4])) = some x1 := hf 1 _ rfl
          have f2 : DataW.trod enc Try.prog w base spare held n 3 (List.take (Try.prog.cellsOf 3) (List.drop 2 [c0, c1, c2, c3, c4])) = some x2 := hf 2 _ rfl
          have f3 : DataW.trod enc Try.prog w base spare held n 3 (List.take (Try.prog.cellsOf 3) (List.drop 3 [c0, c1, c2, c3, c4])) = some x3 := hf 3 _ rfl
          have f4 : DataW.trod enc Try.prog w base spare held n 3 (List.take (Try.prog.cellsOf 3) (List.drop 4 [c0, c1, c2, c3, c4])) = some x4 := hf 4 _ rfl
          simp only [show Try.prog.cellsOf 3 = 1 by kernel_rfl, show Try.prog.cellsOf 5 = 1 by kernel_rfl, List.drop_zero, List.drop_succ_cons, List.take_succ_cons, List.take_zero] at f0 f1 f2 f3 f4
          obtain ⟨k0, ek0, wk0⟩ := DataW.trod_int Try.underlying5 f0
          obtain rfl : c0 = .int .u8 k0 := (List.cons.inj ek0).1
          obtain ⟨k1, ek1, wk1⟩ := DataW.trod_int Try.underlying3 f1
          obtain rfl : c1 = .int .i64 k1 := (List.cons.inj ek1).1
          obtain ⟨k2, ek2, wk2⟩ := DataW.trod_int Try.underlying3 f2
          obtain rfl : c2 = .int .i64 k2 := (List.cons.inj ek2).1
          obtain ⟨k3, ek3, wk3⟩ := DataW.trod_int Try.underlying3 f3
          obtain rfl : c3 = .int .i64 k3 := (List.cons.inj ek3).1
          obtain ⟨k4, ek4, wk4⟩ := DataW.trod_int Try.underlying3 f4
          obtain rfl : c4 = .int .i64 k4 := (List.cons.inj ek4).1
          obtain ⟨kn, rfl, hkn⟩ : ∃ kn : Nat, k0 = (kn : Int) ∧ kn < 256 := by
            have wf0 := DataW.trod_wf8 f0
            exact ⟨k0.toNat, by omega, by omega⟩
          exact ⟨⟨kn, k1, k2, k3, k4⟩, hci 0 (by omega), hci 1 (by omega), hci 2 (by omega), hci 3 (by omega), hci 4 (by omega), hkn⟩
    obtain ⟨rs, hrs, hp⟩ := list_of_each hel
    refine ⟨rs, ⟨some a, cap, by rw [hrs], by omega, hm, fun hp0 => ?_⟩, ?_⟩
    · obtain ⟨h00, _⟩ := hp 0 _ (List.getElem?_eq_getElem (by omega))
      rw [show a.add (0 * 5) = a by simp [Addr.add]] at h00
      have ha := addr_none h00
      refine ⟨a.block, a.off, by rw [← ha], fun k s hk => ?_⟩
      obtain ⟨h0, h1, h2, h3, h4, _⟩ := hp k s hk
      rw [ha] at h0 h1 h2 h3 h4
      simp only [add_none] at h0 h1 h2 h3 h4
      exact ⟨h0, h1, h2, h3, h4⟩
    · intro x hx
      obtain ⟨i, hi⟩ := List.getElem?_of_mem hx
      exact (hp i x hi).2.2.2.2.2
theorem nums_openW {t e : TypeId} {fuel : Nat} {v : Value} {x : DataW H × List MemPlace} (ht : Try.prog.underlying t = some (.slice e)) (he : Try.prog.underlying e = some (.int .u16)) (hc : Try.prog.cellsOf e = 1)
    (h : DataW.trod enc Try.prog w base spare held fuel t [v] = some x) : ∃ l, NumsAt .u16 w v l ∧ ∀ x ∈ l, 0 ≤ x ∧ x ≤ 65535 := by
  rcases open_ints ht he hc h with ⟨h1, _⟩ | ⟨a, len, cap, zs, h1, _, hl, hm, hz, _, hat, hwf⟩
  · obtain rfl : v = .slice none 0 0 := by simpa using h1
    exact ⟨[], ⟨none, 0, rfl, by simp, by simp [maxLen], by simp⟩, by simp⟩
  · obtain rfl : v = .slice (some a) len cap := by simpa using h1
    have hzl : len ≤ zs.length := by rw [hz]; split <;> omega
    refine ⟨zs.take len, ⟨some a, cap, ?_, by simp; omega, hm, fun hp => ?_⟩, fun y hy => ?_⟩
    · rw [List.length_take, Nat.min_eq_left hzl]
    · rw [List.length_take, Nat.min_eq_left hzl] at hp
      have h0 := hat 0 (by omega)
      rw [show a.add 0 = a by simp [Addr.add]] at h0
      have ha := addr_none h0
      refine ⟨a.block, a.off, by rw [← ha], fun k hk => ?_⟩
      rw [List.length_take, Nat.min_eq_left hzl] at hk
      have hk' := hat k (by omega)
      rw [ha] at hk'
      have e1 : (Addr.add ⟨a.block, a.off, none⟩ k) = ⟨a.block, a.off + k, none⟩ := by
        unfold Addr.add
        split
        · rename_i h; subst h; rfl
        · rfl
      rw [e1] at hk'
      rw [hk', List.getElem?_take, if_pos hk, List.getD_eq_getElem?_getD]
    · have := hwf y (List.mem_of_mem_take hy)
      simp [Lit.wf, IntKind.min, IntKind.max, IntKind.signed, IntKind.bits] at this
      omega
end

/-! ### The frame of a law's row -/
theorem own : ownKnob Try.prog.godebug = none := by kernel_rfl

section
variable {H : Type} {enc : TypeId × Value → H} {P : Program}
theorem trodAll_stays (hl : laidOutB P = true) {W W' : World} (hb : Below W.heap.size W W') {sp : Nat → Bool} : ∀ {ts : List TypeId} {vs : List Value} {ds : List (DataW H)} {ps : List MemPlace},
    (ts.all fun t => P.readableRec t && decide (t < P.types.size)) = true → DataW.TrodAll enc P W 0 (fun _ => true) true ts vs ds ps → (∀ x ∈ ps, x.block < W.heap.size) → (∀ x ∈ ps, sp x.block = true) →
    DataW.TrodAll enc P W' 0 sp true ts vs ds ps
  | [], vs, ds, ps, _, h, _, _ => by
    obtain ⟨rfl, rfl, rfl⟩ := trodAll_nil h
    exact trodAll_mk0
  | t :: ts, vs, ds, ps, hr, h, hlt, hs => by
    obtain ⟨v, vs', d, ds', p, q, rfl, rfl, rfl, h1, h2⟩ := trodAll_cons h
    simp only [List.all_cons, Bool.and_eq_true, decide_eq_true_eq] at hr
    exact trodAll_cons_mk (WideElems.Trod_stays hl hr.1.1 hr.1.2 h1 (fun x hx => hb.same (hlt x (by simp [hx]))) (fun x hx => hs x (by simp [hx])))
      (trodAll_stays hl hb (by simpa using hr.2) h2 (fun x hx => hlt x (by simp [hx])) (fun x hx => hs x (by simp [hx])))

/-- A law that hands back true, and has changed nothing that was there. -/
theorem law_post {f : Func} {s : ChangeSpec} {W W' : World} {args : Array Value} {ds : List (DataW H)} {before p : List MemPlace} {t : TypeId} (hl : laidOutB P = true) (hvr : s.vars = [])
    (hW : DataW.Whole enc P f.params.toList s.vars false W args.toList ds [] before) (hA : DataW.TrodAll enc P W 0 (fun _ => true) true f.params.toList args.toList ds p) (hp : before = p)
    (hr : (f.params.toList.all fun t => P.readableRec t && decide (t < P.types.size)) = true) (hres : f.resultTypes = #[t]) (ht : P.underlying t = some .bool) (hfn : s.fn H ds = { results := [.lit (.bool true)], args := ds })
    (hb : Below W.heap.size W W') : s.post enc P f false true false false W args (.bool true) W' := by
  subst hp
  have hlt : ∀ x ∈ before, x.block < W.heap.size := fun x hx => hW.lt x hx
  have hold : ∀ x ∈ before, (fun b => decide (b < W.heap.size)) x.block = true := fun x hx => by simpa using hlt x hx
  have hargs : ∀ sp : Nat → Bool, (∀ x ∈ before, sp x.block = true) → DataW.TrodAll enc P W' 0 sp true f.params.toList args.toList ds before := fun sp hs => trodAll_stays hl hb hr hA hlt hs
  have hres' : ∀ (b : Nat) (sp : Nat → Bool) (hd : Bool), DataW.TrodAll enc P W' b sp hd f.resultTypes.toList ((Value.bool true).resultList f.resultTypes.size) [DataW.lit (.bool true)] [] := fun b sp hd => by
    rw [hres]
    exact trodAll_mk1 (shut_bool ht _)
  have hv0 : ∀ sp : Nat → Bool, DataW.TrodVars enc P W' sp s.vars ([] : List (DataW H)) [] := fun sp => by rw [hvr]; rfl
  have hok := ok_one (P := P) (W' := W') hres rfl (okWide_bool_mk ht true)
  refine ⟨ds, [], before, [], before, [], hW, ?_, ?_, ?_, World.keptBut_mono (fun x hx => ⟨hx, ?_⟩) (hb.frame (· ∈ before)), fun h => by cases h⟩
  · rw [List.append_nil, hfn]; exact hres' _ _ _
  · rw [List.append_nil, hfn]; exact hargs _ hold
  · rw [List.append_nil, hfn]; exact hv0 _
  · exact Or.inr (by simpa using hx)
end
section
open Go.Joins Go.Deep
variable {H : Type} {enc : TypeId × Value → H} {W : World} {base : Nat} {spare : Nat → Bool} {held : Bool}
theorem array5 {α : Type} {cs : Array α} (h : cs.size = 5) : ∃ c0 c1 c2 c3 c4, cs = #[c0, c1, c2, c3, c4] := by
  obtain ⟨l⟩ := cs
  match l, h with
  | [c0, c1, c2, c3, c4], _ => exact ⟨c0, c1, c2, c3, c4, rfl⟩
theorem array4 {α : Type} {cs : Array α} (h : cs.size = 4) : ∃ c0 c1 c2 c3, cs = #[c0, c1, c2, c3] := by
  obtain ⟨l⟩ := cs
  match l, h with
  | [c0, c1, c2, c3], _ => exact ⟨c0, c1, c2, c3, rfl⟩
set_option maxRecDepth 100000 in
theorem tariff_arg {r : Reach} {b0 : Nat} {v : Value} {dt : DataW H} {p : List MemPlace}
    (hv : Value.okWide Try.prog W r b0 24 v) (h : DataW.Trod enc Try.prog W base spare held 24 v dt p) : ∃ (t : Tar) (a b c : Value), v = .agg #[.int .i64 t.zones, a, b, c, .int .i64 t.window] ∧ TarAt W a b c t := by
  obtain ⟨cs, rfl, hsz⟩ := okWide_struct Try.underlying24 hv
  have h5 : Try.prog.cellsOf 24 = 5 := by kernel_rfl
  obtain ⟨c0, c1, c2, c3, c4, rfl⟩ := array5 (hsz.trans h5)
  obtain ⟨fuel, hf0⟩ := h
  obtain ⟨xs, n, _, _, _, hxl, hf⟩ := DataW.trod_struct Try.underlying24 hf0
  have hx : xs.length = 5 := hxl
  match xs, hx with
  | [x0, x1, x2, x3, x4], _ =>
    have f0 : DataW.trod enc Try.prog W base spare held n 3 (List.take (Try.prog.cellsOf 3) (List.drop 0 [c0, c1, c2, c3, c4])) = some x0 := hf 0 _ rfl
    have f1 : DataW.trod enc Try.prog W base spare held n 22 (List.take (Try.prog.cellsOf 22) (List.drop 1 [c0, c1, c2, c3, c4])) = some x1 := hf 1 _ rfl
    have f2 : DataW.trod enc Try.prog W base spare held n 22 (List.take (Try.prog.cellsOf 22) (List.drop 2 [c0, c1, c2, c3, c4])) = some x2 := hf 2 _ rfl
    have f3 : DataW.trod enc Try.prog W base spare held n 22 (List.take (Try.prog.cellsOf 22) (List.drop 3 [c0, c1, c2, c3, c4])) = some x3 := hf 3 _ rfl
    have f4 : DataW.trod enc Try.prog W base spare held n 3 (List.take (Try.prog.cellsOf 3) (List.drop 4 [c0, c1, c2, c3, c4])) = some x4 := hf 4 _ rfl
    simp only [show Try.prog.cellsOf 3 = 1 by kernel_rfl, show Try.prog.cellsOf 22 = 1 by kernel_rfl, List.drop_zero, List.drop_succ_cons, List.take_succ_cons, List.take_zero] at f0 f1 f2 f3 f4
    obtain ⟨k0, ek0, _⟩ := DataW.trod_int Try.underlying3 f0
    obtain rfl : c0 = .int .i64 k0 := (List.cons.inj ek0).1
    obtain ⟨k4, ek4, _⟩ := DataW.trod_int Try.underlying3 f4
    obtain rfl : c4 = .int .i64 k4 := (List.cons.inj ek4).1
    obtain ⟨l1, hl1⟩ := nums_open Try.underlying22 Try.underlying3 (by kernel_rfl) f1
    obtain ⟨l2, hl2⟩ := nums_open Try.underlying22 Try.underlying3 (by kernel_rfl) f2
    obtain ⟨l3, hl3⟩ := nums_open Try.underlying22 Try.underlying3 (by kernel_rfl) f3
    exact ⟨⟨k0, l1, l2, l3, k4⟩, c1, c2, c3, rfl, ⟨hl1, hl2, hl3⟩⟩
set_option maxRecDepth 100000 in
theorem ride_arg {r : Reach} {b0 : Nat} {v : Value} {dt : DataW H} {p : List MemPlace}
    (hv : Value.okWide Try.prog W r b0 68 v) (h : DataW.Trod enc Try.prog W base spare held 68 v dt p) : ∃ s : Rd, v = .agg #[.int .i64 s.day, .int .i64 s.minute, .int .i64 s.low, .int .i64 s.high] := by
  obtain ⟨cs, rfl, hsz⟩ := okWide_struct Try.underlying68 hv
  have h5 : Try.prog.cellsOf 68 = 4 := by kernel_rfl
  obtain ⟨c0, c1, c2, c3, rfl⟩ := array4 (hsz.trans h5)
  obtain ⟨fuel, hf0⟩ := h
  obtain ⟨xs, n, _, _, _, hxl, hf⟩ := DataW.trod_struct Try.underlying68 hf0
  have hx : xs.length = 4 := hxl
  match xs, hx with
  | [x0, x1, x2, x3], _ =>
    have f0 : DataW.trod enc Try.prog W base spare held n 3 (List.take (Try.prog.cellsOf 3) (List.drop 0 [c0, c1, c2, c3])) = some x0 := hf 0 _ rfl
    have f1 : DataW.trod enc Try.prog W base spare held n 3 (List.take (Try.prog.cellsOf 3) (List.drop 1 [c0, c1, c2, c3])) = some x1 := hf 1 _ rfl
    have f2 : DataW.trod enc Try.prog W base spare held n 3 (List.take (Try.prog.cellsOf 3) (List.drop 2 [c0, c1, c2, c3])) = some x2 := hf 2 _ rfl
    have f3 : DataW.trod enc Try.prog W base spare held n 3 (List.take (Try.prog.cellsOf 3) (List.drop 3 [c0, c1, c2, c3])) = some x3 := hf 3 _ rfl
    simp only [show Try.prog.cellsOf 3 = 1 by kernel_rfl, List.drop_zero, List.drop_succ_cons, List.take_succ_cons, List.take_zero] at f0 f1 f2 f3
    obtain ⟨k0, ek0, _⟩ := DataW.trod_int Try.underlying3 f0
    obtain rfl : c0 = .int .i64 k0 := (List.cons.inj ek0).1
    obtain ⟨k1, ek1, _⟩ := DataW.trod_int Try.underlying3 f1
    obtain rfl : c1 = .int .i64 k1 := (List.cons.inj ek1).1
    obtain ⟨k2, ek2, _⟩ := DataW.trod_int Try.underlying3 f2
    obtain rfl : c2 = .int .i64 k2 := (List.cons.inj ek2).1
    obtain ⟨k3, ek3, _⟩ := DataW.trod_int Try.underlying3 f3
    obtain rfl : c3 = .int .i64 k3 := (List.cons.inj ek3).1
    exact ⟨⟨k0, k1, k2, k3⟩, rfl⟩
set_option maxRecDepth 100000 in
theorem rides_arg {r : Reach} {b0 : Nat} {v : Value} {d : DataW H} {p : List MemPlace}
    (hv : Value.okWide Try.prog W r b0 25 v) (h : DataW.Trod enc Try.prog W base spare held 25 v d p) : ∃ ws, RdsAt W v ws := by
  obtain ⟨a, len, cap, rfl⟩ := okWide_slice Try.underlying25 hv
  obtain ⟨fuel, h1⟩ := h
  exact rides_open h1
set_option maxRecDepth 100000 in
theorem taps_arg {r : Reach} {b0 : Nat} {v : Value} {d : DataW H} {p : List MemPlace}
    (hv : Value.okWide Try.prog W r b0 46 v) (h : DataW.Trod enc Try.prog W base spare held 46 v d p) : ∃ ws, TpsAt W v ws := by
  obtain ⟨a, len, cap, rfl⟩ := okWide_slice Try.underlying46 hv
  obtain ⟨fuel, h1⟩ := h
  exact taps_open h1
set_option maxRecDepth 100000 in
theorem tickets_arg {r : Reach} {b0 : Nat} {v : Value} {d : DataW H} {p : List MemPlace}
    (hv : Value.okWide Try.prog W r b0 41 v) (h : DataW.Trod enc Try.prog W base spare held 41 v d p) : ∃ ws, TksAt W v ws ∧ ∀ x ∈ ws, x.kind < 256 := by
  obtain ⟨a, len, cap, rfl⟩ := okWide_slice Try.underlying41 hv
  obtain ⟨fuel, h1⟩ := h
  exact tickets_open h1
set_option maxRecDepth 100000 in
theorem ints_arg {r : Reach} {b0 : Nat} {v : Value} {d : DataW H} {p : List MemPlace}
    (hv : Value.okWide Try.prog W r b0 22 v) (h : DataW.Trod enc Try.prog W base spare held 22 v d p) : ∃ ws, NumsAt .i64 W v ws := by
  obtain ⟨a, len, cap, rfl⟩ := okWide_slice Try.underlying22 hv
  obtain ⟨fuel, h1⟩ := h
  exact nums_open Try.underlying22 Try.underlying3 (by kernel_rfl) h1
end
end Go.Proofs.Ytmbkpfkkohpnkaa
