import Derived.Test.YtckgapeednokjaaGreatTd
import Derived.Test.YtckgapeednokjaaGreatUb
set_option linter.unusedVariables false
set_option linter.unusedSimpArgs false
namespace Go.Proofs.YtckgapeednokjaaGreat
open Go Go.Proofs Go.RowKit

/-! ### Records in memory; layoverref11: In, Right -/
def RecsAt (w : World) (v : Value) (l : List Rc) : Prop :=
  ∃ A c, v = .slice A l.length c ∧ l.length ≤ c ∧ c ≤ maxLen ∧
    (0 < l.length → ∃ b o, A = some ⟨b, o, none⟩ ∧ ∀ k r, l[k]? = some r → w.cell? ⟨b, o + k * 6, none⟩ = some (.int .i64 r.mac) ∧ w.cell? ⟨b, o + k * 6 + 1, none⟩ = some (.int .i64 r.seq) ∧ w.cell? ⟨b, o + k * 6 + 2, none⟩ = some (.int .i64 r.min) ∧ w.cell? ⟨b, o + k * 6 + 3, none⟩ = some (.int .u8 r.kind) ∧ w.cell? ⟨b, o + k * 6 + 4, none⟩ = some (.int .i64 r.a) ∧ w.cell? ⟨b, o + k * 6 + 5, none⟩ = some (.int .i64 r.b))
theorem RecsAt.below {w w' : World} {v : Value} {l : List Rc} (h : RecsAt w v l) (hb : Below w.heap.size w w') : RecsAt w' v l := by
  obtain ⟨A, c, rfl, h1, h2, h3⟩ := h
  refine ⟨A, c, rfl, h1, h2, fun hp => ?_⟩
  obtain ⟨b, o, e, hc⟩ := h3 hp
  refine ⟨b, o, e, fun k r hr => ?_⟩
  obtain ⟨c0, c1, c2, c3, c4, c5⟩ := hc k r hr
  exact ⟨cell_below hb c0, cell_below hb c1, cell_below hb c2, cell_below hb c3, cell_below hb c4, cell_below hb c5⟩
theorem RecsAt.form {w : World} {v : Value} {l : List Rc} (h : RecsAt w v l) : ∃ A c, v = .slice A l.length c ∧ l.length ≤ c ∧ c ≤ 9223372036854775807 := by
  obtain ⟨A, c, e, h1, h2, _⟩ := h
  exact ⟨A, c, e, h1, by simpa [maxLen] using h2⟩
theorem RecsAt.at_ {w : World} {A : Option Addr} {n c : Nat} {l : List Rc} (h : RecsAt w (.slice A n c) l) {k : Nat} (hk : k < l.length) :
    ∃ b o r, A = some ⟨b, o, none⟩ ∧ l[k]? = some r ∧ w.cell? ⟨b, o + k * 6, none⟩ = some (.int .i64 r.mac) ∧ w.cell? ⟨b, o + k * 6 + 1, none⟩ = some (.int .i64 r.seq) ∧ w.cell? ⟨b, o + k * 6 + 2, none⟩ = some (.int .i64 r.min) ∧ w.cell? ⟨b, o + k * 6 + 3, none⟩ = some (.int .u8 r.kind) ∧ w.cell? ⟨b, o + k * 6 + 4, none⟩ = some (.int .i64 r.a) ∧ w.cell? ⟨b, o + k * 6 + 5, none⟩ = some (.int .i64 r.b) ∧ b < w.heap.size := by
  obtain ⟨A', c', e, _, _, hT⟩ := h
  cases e
  obtain ⟨b, o, e, hc⟩ := hT (by omega)
  obtain ⟨h0, h1, h2, h3, h4, h5⟩ := hc k l[k] (List.getElem?_eq_getElem hk)
  exact ⟨b, o, _, e, List.getElem?_eq_getElem hk, h0, h1, h2, h3, h4, h5, World.block_lt_of_cell? _ _ h0⟩
theorem In11_same (n lo hi : Int) (w : World) : Calls Tryz.prog 67 #[.int .i64 n, .int .i64 lo, .int .i64 hi] w (Same w (.bool (inB n lo hi))) := by
  by_cases h1 : lo ≤ n
  · by_cases h2 : n ≤ hi
    · have e : inB n lo hi = true := by simp [inB, h1, h2]
      rw [e]; clear e
      go_enter Tryz.func67, Tryz.ntmps67
      go_wp2
      go_ret
      exact ⟨rfl, rfl⟩
    · have e : inB n lo hi = false := by simp [inB, h2]
      rw [e]; clear e
      go_enter Tryz.func67, Tryz.ntmps67
      go_wp2
      go_ret
      exact ⟨rfl, rfl⟩
  · have e : inB n lo hi = false := by simp [inB, h1]
    rw [e]; clear e
    go_enter Tryz.func67, Tryz.ntmps67
    go_wp2
    go_ret
    exact ⟨rfl, rfl⟩
def GivesRight (r : Rc) (w : World) (e : Ending) (w' : World) : Prop := ∃ b : Bool, e = .returned (.bool b) ∧ (b = true → RcOk r) ∧ Below w.heap.size w w'
set_option maxRecDepth 100000 in
set_option maxHeartbeats 3200000 in
theorem Right_any (r : Rc) (w : World) : Calls Tryz.prog 27 #[.agg #[.int .i64 r.mac, .int .i64 r.seq, .int .i64 r.min, .int .u8 r.kind, .int .i64 r.a, .int .i64 r.b]] w (GivesRight r w) := by
  have hw0 : Below w.heap.size w (w.alloc (.cells #[.int .i64 r.mac, .int .i64 r.seq, .int .i64 r.min, .int .u8 r.kind, .int .i64 r.a, .int .i64 r.b] 31)) := (Below.refl _ _).alloc (Nat.le_refl _) _
  have G0 := Lib.hid (heap_alloc_new w (.cells #[.int .i64 r.mac, .int .i64 r.seq, .int .i64 r.min, .int .u8 r.kind, .int .i64 r.a, .int .i64 r.b] 31 (0, 0)))
  go_enter Tryz.func27, Tryz.ntmps27
  have gc := box_cells G0.out
  have gf := box_frozen G0.out
  go_wp2_with fail
  refine (In11_same r.mac 0 999 _).mono ?_
  rintro e wz ⟨rfl, rfl⟩
  cases e0 : inB r.mac 0 999 with
  | false =>
    go_wp2
    go_ret
    exact ⟨false, rfl, fun h => (by cases h), hw0⟩
  | true =>
    go_wp2_with fail
    refine (In11_same r.seq 1 9999 _).mono ?_
    rintro e wz ⟨rfl, rfl⟩
    cases e1 : inB r.seq 1 9999 with
    | false =>
      go_wp2
      go_ret
      exact ⟨false, rfl, fun h => (by cases h), hw0⟩
    | true =>
      go_wp2_with fail
      refine (In11_same r.min 0 1000000 _).mono ?_
      rintro e wz ⟨rfl, rfl⟩
      cases e2 : inB r.min 0 1000000 with
      | false =>
        go_wp2
        go_ret
        exact ⟨false, rfl, fun h => (by cases h), hw0⟩
      | true =>
        have i0 := inB_iff.1 e0
        have i1 := inB_iff.1 e1
        have i2 := inB_iff.1 e2
        clear e0 e1 e2
        by_cases k0 : r.kind = 0
        · have k0b : (r.kind == 0) = true := by simpa using k0
          have K0 := Lib.hid k0
          clear k0
          go_wp2_with fail
          refine (In11_same r.a 0 99 _).mono ?_
          rintro e wz ⟨rfl, rfl⟩
          cases e3 : inB r.a 0 99 with
          | false =>
            go_wp2
            go_ret
            exact ⟨false, rfl, fun h => (by cases h), hw0⟩
          | true =>
            go_wp2_with fail
            refine (In11_same r.b 0 10000 _).mono ?_
            rintro e wz ⟨rfl, rfl⟩
            cases e4 : inB r.b 0 10000 with
            | false =>
              go_wp2
              go_ret
              exact ⟨false, rfl, fun h => (by cases h), hw0⟩
            | true =>
              have i3 := inB_iff.1 e3
              have i4 := inB_iff.1 e4
              go_wp2
              go_ret
              exact ⟨true, rfl, fun _ => ⟨i0, i1, i2, .inl ⟨K0.out, i3, i4⟩⟩, hw0⟩
        · have k0b : (r.kind == 0) = false := by simpa using k0
          by_cases k1 : r.kind = 1
          · have k1b : (r.kind == 1) = true := by simpa using k1
            have K1 := Lib.hid k1
            clear k1
            go_wp2_with fail
            refine (In11_same r.a 0 1000000 _).mono ?_
            rintro e wz ⟨rfl, rfl⟩
            cases e3 : inB r.a 0 1000000 with
            | false =>
              go_wp2
              go_ret
              exact ⟨false, rfl, fun h => (by cases h), hw0⟩
            | true =>
              have i3 := inB_iff.1 e3
              by_cases hb : r.b = 0
              · have hb2 : (r.b == 0) = true := by simpa using hb
                have HB := Lib.hid hb
                clear hb
                go_wp2
                go_ret
                exact ⟨true, rfl, fun _ => ⟨i0, i1, i2, .inr (.inl ⟨K1.out, i3, HB.out⟩)⟩, hw0⟩
              · have hb2 : (r.b == 0) = false := by simpa using hb
                go_wp2
                go_ret
                exact ⟨false, rfl, fun h => (by cases h), hw0⟩
          · have k1b : (r.kind == 1) = false := by simpa using k1
            by_cases k2 : r.kind = 2
            · have k2b : (r.kind == 2) = true := by simpa using k2
              have K2 := Lib.hid k2
              clear k2
              go_wp2_with fail
              refine (In11_same r.a 0 9999 _).mono ?_
              rintro e wz ⟨rfl, rfl⟩
              cases e3 : inB r.a 0 9999 with
              | false =>
                go_wp2
                go_ret
                exact ⟨false, rfl, fun h => (by cases h), hw0⟩
              | true =>
                go_wp2_with fail
                refine (In11_same r.b 0 10000000 _).mono ?_
                rintro e wz ⟨rfl, rfl⟩
                cases e4 : inB r.b 0 10000000 with
                | false =>
                  go_wp2
                  go_ret
                  exact ⟨false, rfl, fun h => (by cases h), hw0⟩
                | true =>
                  have i3 := inB_iff.1 e3
                  have i4 := inB_iff.1 e4
                  go_wp2
                  go_ret
                  exact ⟨true, rfl, fun _ => ⟨i0, i1, i2, .inr (.inr ⟨K2.out, i3, i4⟩)⟩, hw0⟩
            · have k2b : (r.kind == 2) = false := by simpa using k2
              go_wp2
              go_ret
              exact ⟨false, rfl, fun h => (by cases h), hw0⟩
end Go.Proofs.YtckgapeednokjaaGreat
