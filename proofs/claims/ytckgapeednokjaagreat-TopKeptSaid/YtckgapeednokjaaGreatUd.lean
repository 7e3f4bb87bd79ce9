import Derived.Test.YtckgapeednokjaaGreatUc
set_option linter.unusedVariables false
set_option linter.unusedSimpArgs false
namespace Go.Proofs.YtckgapeednokjaaGreat
open Go Go.Proofs Go.RowKit

/-! ### layoverref11: Fault of one list, Contradictory -/
def GivesFaultK (l : List Rc) (w : World) (e : Ending) (w' : World) : Prop := ∃ n : Int, e = .returned (.int .i64 n) ∧ (n = 0 → l.length ≤ 60 ∧ ∀ r ∈ l, RcOk r) ∧ Below w.heap.size w w'
set_option maxRecDepth 100000 in
set_option maxHeartbeats 3200000 in
theorem FaultK_any (b o cc : Nat) (u : Value) (l : List Rc) (w : World) (hc : w.cell? ⟨b, o, none⟩ = some u) (hl : RecsAt w u l) : Calls Tryz.prog 5 #[.slice (some ⟨b, o, none⟩) 1 cc] w (GivesFaultK l w) := by
  obtain ⟨A, c, rfl, _, _⟩ := hl.form
  have Hl := Lib.hid hl
  have Hc := Lib.hid hc
  clear hl
  go_enter Tryz.func5, Tryz.ntmps5
  go_wp2
  go_loop [3] (fun s => s = .int .i64 0 ∨ (s = .int .i64 1 ∧ l.length ≤ 60)) (fun s => 1 - (intOf s).toNat)
  case atStart => exact .inl rfl
  case round =>
    rcases hrel with rfl | ⟨rfl, hn⟩
    · by_cases hn : 60 < l.length
      · go_wp2
        go_ret
        exact ⟨3, rfl, fun h => by omega, Below.refl _ _⟩
      · go_wp2
        go_round
        case rel => exact .inr ⟨by go_num, by omega⟩
        case measure => simp [intOf]
    · go_wp2
      go_loopw [4] (fun s wr => Below w.heap.size w wr ∧ (s = .int .i64 0 ∨ (s = .int .i64 1 ∧ ∀ r ∈ l, RcOk r))) (fun s wr => 1 - (intOf s).toNat)
      case atStart => exact ⟨Below.refl _ _, .inl rfl⟩
      case round =>
        obtain ⟨hb, hrel⟩ := hrel
        rcases hrel with rfl | ⟨rfl, hall⟩
        · obtain ⟨wo, rfl⟩ : ∃ wo : World, wo = wr := ⟨_, rfl⟩
          go_wp2
          go_loopw [5] (fun s wr => ∃ k : Nat, k ≤ l.length ∧ s = .int .i64 (k : Int) ∧ Below w.heap.size w wr ∧ ∀ j r, j < k → l[j]? = some r → RcOk r) (fun s wr => l.length - (intOf s).toNat)
          case atStart => exact ⟨0, by omega, rfl, hb, fun j r h => by omega⟩
          case round =>
            obtain ⟨k, hk, rfl, hbk, hj⟩ := hrel
            obtain ⟨wp, rfl⟩ : ∃ wp : World, wp = wr := ⟨_, rfl⟩
            have Hj := Lib.hid hj
            clear hj
            have hcp := cell_below hbk Hc.out
            by_cases hkl : k < l.length
            · obtain ⟨b2, o2, r, e, hr, r0, r1, r2, r3, r4, r5, _⟩ := (Hl.out.below hbk).at_ hkl
              cases e
              have Hr := Lib.hid hr
              clear hr
              go_wp2_with fail
              refine (Right_any r _).mono ?_
              rintro e wz ⟨b, rfl, hok, hbz⟩
              have hwz := hbk.trans (hbz.mono hbk.size)
              cases b with
              | false =>
                go_wp2
                go_ret
                exact ⟨1, rfl, fun h => by omega, hwz⟩
              | true =>
                have hR := hok rfl
                clear hok
                go_wp2
                go_roundw
                case rel =>
                  refine ⟨k + 1, by omega, by go_num, hwz, fun j x hjk hx => ?_⟩
                  by_cases e : j = k
                  · subst e
                    rw [Hr.out] at hx
                    cases hx
                    exact hR
                  · exact Hj.out j x (by omega) hx
                case measure => simp [intOf]; omega
            · obtain rfl : k = l.length := by omega
              go_wp2
              go_roundw
              case rel => exact ⟨hbk, .inr ⟨by go_num, fun r hr => by
                obtain ⟨j, hj⟩ := List.mem_iff_getElem?.1 hr
                exact Hj.out j r (List.getElem?_eq_some_iff.1 hj).1 hj⟩⟩
              case measure => simp [intOf]
        · have Hall := Lib.hid hall
          clear hall
          go_wp2
          go_ret
          exact ⟨0, rfl, fun _ => ⟨hn, Hall.out⟩, hb⟩
theorem rec11_fields : (Tryz.prog.fieldsOf 31).toList.map (fun f => (f.name, f.type, f.offset)) = [("Machine", 3, 0), ("Seq", 3, 1), ("Minute", 3, 2), ("Kind", 5, 3), ("A", 3, 4), ("B", 3, 5)] := by kernel_rfl
theorem rec11_under : Tryz.prog.underlying 31 = some (.struct (Tryz.prog.fieldsOf 31)) := by kernel_rfl
theorem rec11_held : Tryz.prog.stoodInHeld 31 = false := by kernel_rfl
theorem rec11_guard (w : World) (x y : Operand) (xs ys : Array Value) : (eqGuard .eql 31 x y (.agg xs) (.agg ys)).run Tryz.prog w = .ok () w := run_eqGuard_agg w _ _ _ _ _ _ (by kernel_rfl)
theorem rec11_guardN (w : World) (x y : Operand) (xs ys : Array Value) : (eqGuard .neq 31 x y (.agg xs) (.agg ys)).run Tryz.prog w = .ok () w := run_eqGuard_agg w _ _ _ _ _ _ (by kernel_rfl)
set_option maxRecDepth 100000 in
theorem rec11_equal (w : World) (x y : Rc) : (Op.equal 31 (.agg #[.int .i64 x.mac, .int .i64 x.seq, .int .i64 x.min, .int .u8 x.kind, .int .i64 x.a, .int .i64 x.b]) (.agg #[.int .i64 y.mac, .int .i64 y.seq, .int .i64 y.min, .int .u8 y.kind, .int .i64 y.a, .int .i64 y.b])).run Tryz.prog w = .ok (decide (x = y)) w := by
  unfold Op.equal Op.maxDepth
  rw [run_equalIn_agg w 9999 _ _ _ rec11_under rec11_held]
  have hf := rec11_fields
  match h : (Tryz.prog.fieldsOf 31).toList with
  | [f0, f1, f2, f3, f4, f5] =>
    rw [h] at hf
    simp only [List.map_cons, List.map_nil, List.cons.injEq, Prod.mk.injEq, and_true] at hf
    obtain ⟨⟨n0, t0, o0⟩, ⟨n1, t1, o1⟩, ⟨n2, t2, o2⟩, ⟨n3, t3, o3⟩, ⟨n4, t4, o4⟩, n5, t5, o5⟩ := hf
    simp only [Op.eqFields, n0, t0, o0, n1, t1, o1, n2, t2, o2, n3, t3, o3, n4, t4, o4, n5, t5, o5]
    have e : decide (x = y) = (decide (x.mac = y.mac) && (decide (x.seq = y.seq) && (decide (x.min = y.min) && (decide (x.kind = y.kind) && (decide (x.a = y.a) && (decide (x.b = y.b))))))) := by
      cases x
      cases y
      simp
    rw [e]
    simp [go_sem]
    by_cases h0 : x.mac = y.mac
    · by_cases h1 : x.seq = y.seq
      · by_cases h2 : x.min = y.min
        · by_cases h3 : x.kind = y.kind
          · by_cases h4 : x.a = y.a
            · by_cases h5 : x.b = y.b
              · simp [h0, h1, h2, h3, h4, h5]
              · simp [h0, h1, h2, h3, h4, h5]
            · simp [h0, h1, h2, h3, h4]
          · simp [h0, h1, h2, h3]
        · simp [h0, h1, h2]
      · simp [h0, h1]
    · simp [h0]
  | [] => rw [h] at hf; simp at hf
  | [f0] => rw [h] at hf; simp at hf
  | [f0, f1] => rw [h] at hf; simp at hf
  | [f0, f1, f2] => rw [h] at hf; simp at hf
  | [f0, f1, f2, f3] => rw [h] at hf; simp at hf
  | [f0, f1, f2, f3, f4] => rw [h] at hf; simp at hf
  | f0 :: f1 :: f2 :: f3 :: f4 :: f5 :: g :: r => rw [h] at hf; simp at hf
theorem rec11_eql (w : World) (x y : Rc) : (binOp .eql 31 (.agg #[.int .i64 x.mac, .int .i64 x.seq, .int .i64 x.min, .int .u8 x.kind, .int .i64 x.a, .int .i64 x.b]) (.agg #[.int .i64 y.mac, .int .i64 y.seq, .int .i64 y.min, .int .u8 y.kind, .int .i64 y.a, .int .i64 y.b])).run Tryz.prog w = .ok (.bool (decide (x = y))) w := by
  simp only [binOp, Sem.run_bind, rec11_equal, Result.andThen_ok, Sem.run_pure]
theorem rec11_neq (w : World) (x y : Rc) : (binOp .neq 31 (.agg #[.int .i64 x.mac, .int .i64 x.seq, .int .i64 x.min, .int .u8 x.kind, .int .i64 x.a, .int .i64 x.b]) (.agg #[.int .i64 y.mac, .int .i64 y.seq, .int .i64 y.min, .int .u8 y.kind, .int .i64 y.a, .int .i64 y.b])).run Tryz.prog w = .ok (.bool (!decide (x = y))) w := by
  simp only [binOp, Sem.run_bind, rec11_equal, Result.andThen_ok, Sem.run_pure]
/-- Do two records contradict each other? -/
def contraB (a b : Rc) : Bool := !(decide (a = b) || !decide (a.mac = b.mac)) && (decide (a.seq = b.seq) || (decide (b.seq < a.seq) && decide (a.min < b.min)) || (decide (a.seq < b.seq) && decide (b.min < a.min)))
set_option maxRecDepth 100000 in
set_option maxHeartbeats 3200000 in
theorem Contradict_any (x y : Rc) (w : World) : Calls Tryz.prog 28 #[.agg #[.int .i64 x.mac, .int .i64 x.seq, .int .i64 x.min, .int .u8 x.kind, .int .i64 x.a, .int .i64 x.b], .agg #[.int .i64 y.mac, .int .i64 y.seq, .int .i64 y.min, .int .u8 y.kind, .int .i64 y.a, .int .i64 y.b]] w (Gives w (.bool (contraB x y))) := by
  have hw0 : Below w.heap.size w ((w.alloc (.cells #[.int .i64 x.mac, .int .i64 x.seq, .int .i64 x.min, .int .u8 x.kind, .int .i64 x.a, .int .i64 x.b] 31)).alloc (.cells #[.int .i64 y.mac, .int .i64 y.seq, .int .i64 y.min, .int .u8 y.kind, .int .i64 y.a, .int .i64 y.b] 31)) := two_belowT w _ _
  have G0 := Lib.hid ((Below.heap_alloc (w.alloc (.cells #[.int .i64 x.mac, .int .i64 x.seq, .int .i64 x.min, .int .u8 x.kind, .int .i64 x.a, .int .i64 x.b] 31)) (.cells #[.int .i64 y.mac, .int .i64 y.seq, .int .i64 y.min, .int .u8 y.kind, .int .i64 y.a, .int .i64 y.b] 31) w.heap.size (by simp)).trans (heap_alloc_new w (.cells #[.int .i64 x.mac, .int .i64 x.seq, .int .i64 x.min, .int .u8 x.kind, .int .i64 x.a, .int .i64 x.b] 31)))
  have J0 := Lib.hid (heap_alloc2_new w (.cells #[.int .i64 x.mac, .int .i64 x.seq, .int .i64 x.min, .int .u8 x.kind, .int .i64 x.a, .int .i64 x.b] 31) (.cells #[.int .i64 y.mac, .int .i64 y.seq, .int .i64 y.min, .int .u8 y.kind, .int .i64 y.a, .int .i64 y.b] 31))
  have qe := fun w : World => rec11_eql w x y
  have qg := fun (w : World) (a b : Operand) => rec11_guard w a b #[.int .i64 x.mac, .int .i64 x.seq, .int .i64 x.min, .int .u8 x.kind, .int .i64 x.a, .int .i64 x.b] #[.int .i64 y.mac, .int .i64 y.seq, .int .i64 y.min, .int .u8 y.kind, .int .i64 y.a, .int .i64 y.b]
  by_cases hxy : x = y
  · have hE : decide (x = y) = true := by simpa using hxy
    rw [hE] at qe
    have HC := Lib.hid (show contraB x y = false by simp [contraB, hxy])
    clear hxy hE
    go_enter Tryz.func28, Tryz.ntmps28
    have gc := box_cells G0.out
    have gf := box_frozen G0.out
    have jc := box_cells J0.out
    have jf := box_frozen J0.out
    go_wp2
    go_ret
    exact ⟨by rw [HC.out]; rfl, hw0⟩
  · have hE : decide (x = y) = false := by simpa using hxy
    simp only [hE] at qe
    by_cases hm : x.mac = y.mac
    · have m1 : (x.mac != y.mac) = false := by simpa using hm
      by_cases hs : x.seq = y.seq
      · have s1 : (x.seq == y.seq) = true := by simpa using hs
        have HC := Lib.hid (show contraB x y = true by simp [contraB, hxy, hm, hs])
        clear hxy hE hm hs
        go_enter Tryz.func28, Tryz.ntmps28
        have gc := box_cells G0.out
        have gf := box_frozen G0.out
        have jc := box_cells J0.out
        have jf := box_frozen J0.out
        go_wp2
        go_ret
        exact ⟨by rw [HC.out]; rfl, hw0⟩
      · have s1 : (x.seq == y.seq) = false := by simpa using hs
        by_cases hl : y.seq < x.seq
        · have hl2 : ¬ x.seq < y.seq := by omega
          by_cases hn : x.min < y.min
          · have HC := Lib.hid (show contraB x y = true by simp [contraB, hxy, hm, hs, hl, hn])
            clear hxy hE hm hs
            go_enter Tryz.func28, Tryz.ntmps28
            have gc := box_cells G0.out
            have gf := box_frozen G0.out
            have jc := box_cells J0.out
            have jf := box_frozen J0.out
            go_wp2
            go_ret
            exact ⟨by rw [HC.out]; rfl, hw0⟩
          · have HC := Lib.hid (show contraB x y = false by simp [contraB, hxy, hm, hs, hl, hl2, hn])
            clear hxy hE hm hs
            go_enter Tryz.func28, Tryz.ntmps28
            have gc := box_cells G0.out
            have gf := box_frozen G0.out
            have jc := box_cells J0.out
            have jf := box_frozen J0.out
            go_wp2
            go_ret
            exact ⟨by rw [HC.out]; rfl, hw0⟩
        · have hl2 : x.seq < y.seq := by omega
          by_cases hn : y.min < x.min
          · have HC := Lib.hid (show contraB x y = true by simp [contraB, hxy, hm, hs, hl, hl2, hn])
            clear hxy hE hm hs
            go_enter Tryz.func28, Tryz.ntmps28
            have gc := box_cells G0.out
            have gf := box_frozen G0.out
            have jc := box_cells J0.out
            have jf := box_frozen J0.out
            go_wp2
            go_ret
            exact ⟨by rw [HC.out]; rfl, hw0⟩
          · have HC := Lib.hid (show contraB x y = false by simp [contraB, hxy, hm, hs, hl, hl2, hn])
            clear hxy hE hm hs
            go_enter Tryz.func28, Tryz.ntmps28
            have gc := box_cells G0.out
            have gf := box_frozen G0.out
            have jc := box_cells J0.out
            have jf := box_frozen J0.out
            go_wp2
            go_ret
            exact ⟨by rw [HC.out]; rfl, hw0⟩
    · have m1 : (x.mac != y.mac) = true := by simpa using hm
      have HC := Lib.hid (show contraB x y = false by simp [contraB, hxy, hm])
      clear hxy hE hm
      go_enter Tryz.func28, Tryz.ntmps28
      have gc := box_cells G0.out
      have gf := box_frozen G0.out
      have jc := box_cells J0.out
      have jf := box_frozen J0.out
      go_wp2
      go_ret
      exact ⟨by rw [HC.out]; rfl, hw0⟩
end Go.Proofs.YtckgapeednokjaaGreat
