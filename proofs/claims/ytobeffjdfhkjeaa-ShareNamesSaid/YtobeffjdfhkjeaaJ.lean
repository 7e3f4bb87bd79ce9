import Derived.Test.YtobeffjdfhkjeaaMa
import Derived.Test.YtobeffjdfhkjeaaL
import Derived.WalkMore
import Derived.Deep.LoopGhost
set_option linter.unusedVariables false
set_option linter.unusedSimpArgs false
namespace Go.Proofs.Ytobeffjdfhkjeaa
open Go Go.Proofs Go.RowKit

/-- lists$1: is a list one of numbers of journeys, one for each company? -/
theorem lists1_val (B : Nat) (n : Int) (v : Value) (l : List Int) (w : World) (hB : w.cell? ⟨B, 0, none⟩ = some (.int .i64 n)) (hv : NumsAt .i64 w v l) :
    CallsVal Try.prog (.func (.func 79) #[] #[.pointer (some ⟨B, 0, none⟩)]) #[v] w (Gives w (.bool (rowB n l))) := by
  refine ⟨79, #[v, .pointer (some ⟨B, 0, none⟩)], by kernel_rfl, ?_⟩
  obtain ⟨A, c, rfl, hc, hm⟩ := hv.form
  cases e : ((l.length : Int) == n) with
  | false =>
    have e1 : rowB n l = false := by
      rw [Bool.eq_false_iff]
      intro h
      have := (rowB_iff.1 h).1
      simp [this] at e
    rw [e1]; clear e1
    go_enter Try.func79, Try.ntmps79
    go_wp2
    go_ret
    exact ⟨rfl, Below.refl _ _⟩
  | true =>
    have e1 : rowB n l = (l.all fun x => inB x 0 400) := by
      have : (l.length : Int) = n := by simpa using e
      simp [rowB, this]
    rw [e1]; clear e1
    go_enter Try.func79, Try.ntmps79
    go_wp2_with (go_at_call 69; refine (allJ_any _ l _ hv).mono ?_; rintro e w1 ⟨rfl, hb1⟩)
    go_ret
    exact ⟨rfl, hb1⟩

theorem lists_any (n : Int) (v u : Value) (ss : List Strat) (ll : List (List Int)) (w : World) (hv : StrataAt w v ss) (hu : RowsAt w u ll) :
    Calls Try.prog 56 #[.agg #[.int .i64 n, v], u] w (Gives w (.bool (listsB n ss.length ll))) := by
  have hb0 : Below w.heap.size w (w.alloc (.cells #[.int .i64 n, v] 33)) := (Below.refl _ _).alloc (Nat.le_refl _) _
  obtain ⟨A, c, rfl, hc, hm⟩ := hv.form
  have hu0 := hu
  obtain ⟨A', c', rfl, hc', hm'⟩ := hu.form
  cases e : ((ll.length : Int) == (ss.length : Int)) with
  | false =>
    have e1 : listsB n ss.length ll = false := by
      rw [Bool.eq_false_iff]
      intro h
      have := (listsB_iff.1 h).1
      simp [this] at e
    rw [e1]; clear e1
    go_enter Try.func56, Try.ntmps56
    go_wp2
    go_ret
    exact ⟨rfl, hb0⟩
  | true =>
    have e1 : listsB n ss.length ll = (ll.all (rowB n)) := by
      have h : (ll.length : Int) = (ss.length : Int) := by simpa using e
      have h1 : ll.length = ss.length := by omega
      simp only [listsB, h1, decide_true, Bool.true_and]
      rfl
    rw [e1]; clear e1
    have Hc := Lib.hid (all_rows (.func 79) #[] #[.pointer (some ⟨w.heap.size, 0, none⟩)] (rowB n) _ ll _ (hu0.below hb0) fun k x u w' _ hn hb => lists1_val w.heap.size n u x w' (cell_below hb (by simp [go_sem])) hn)
    go_enter Try.func56, Try.ntmps56
    go_wp2_with (go_at_call 78; refine Hc.out.mono ?_; rintro e w1 ⟨rfl, hb1⟩)
    go_ret
    exact ⟨rfl, hb0.trans (hb1.mono hb0.size)⟩

set_option maxRecDepth 100000 in
theorem refuses_any (s : Strat) (u v : Value) (l : List Int) (w : World) (hu : NumsAt .i64 w u s.seen) (hv : NumsAt .i64 w v l) (hl : l.length ≤ s.seen.length) (hok : SumOk l) :
    Calls Try.prog 80 #[.agg #[.int .i64 s.coins, .int .i64 s.lo, .int .i64 s.hi, u], v] w (Gives w (.bool (!partB s l))) := by
  obtain ⟨A, c, rfl, hc, hm⟩ := hu.form
  obtain ⟨A', c', rfl, hc', hm'⟩ := hv.form
  have hb0 : Below w.heap.size w (w.alloc (.cells #[.int .i64 s.coins, .int .i64 s.lo, .int .i64 s.hi, .slice A s.seen.length c] 86)) := (Below.refl _ _).alloc (Nat.le_refl _) _
  go_enter Try.func80, Try.ntmps80
  go_wp2
  go_loop [9] (fun i => ∃ k : Nat, k ≤ l.length ∧ i = .int .i64 k ∧ ∀ j, j < k → s.seen[j]?.getD 0 ≤ l[j]?.getD 0) (fun i => l.length - (intOf i).toNat)
  case atStart => exact ⟨0, by omega, rfl, by intro j h; omega⟩
  case round =>
    obtain ⟨k, hk, rfl, hall⟩ := hrel
    have Hall := Lib.hid hall
    clear hall
    by_cases hlt : k < l.length
    · obtain ⟨b, o, y, rfl, hy, dy, _⟩ := hu.at_ (k := k) (by omega)
      obtain ⟨b', o', x, rfl, hx, dx, _⟩ := hv.at_ hlt
      have Hx := Lib.hid hx
      have Hy := Lib.hid hy
      have i2 : (k : Int) < (s.seen.length : Int) := by omega
      clear hx hy
      go_wp2
      · have q : x < y := by assumption
        go_ret
        exact gives_bool (by simp [partB, lowB_no Hx.out Hy.out q]) hb0
      · have q : y ≤ x := by assumption
        go_round
        case rel =>
          refine ⟨k + 1, by omega, by go_num, fun j hj => ?_⟩
          by_cases e : j = k
          · subst e
            rw [Hx.out, Hy.out]
            exact q
          · exact Hall.out j (by omega)
        case measure => simp [intOf]; omega
    · go_wp2_with fail
      refine wp_name (fun W => Below w.heap.size w W ∧ W.cell? ⟨w.heap.size, 1, none⟩ = some (.int .i64 s.lo) ∧ W.cell? ⟨w.heap.size, 2, none⟩ = some (.int .i64 s.hi)) ?_ (fun W hF => ?_)
      · exact ⟨hb0, by simp [go_sem], by simp [go_sem]⟩
      obtain ⟨hW, g1, g2⟩ := hF
      have hvw := hv.below hW
      replace g1 := Later.cell g1
      replace g2 := Later.cell g2
      refine wp_region_later (by kernel_rfl) (by kernel_rfl) ?_
      repeat (go_big_quiet_step (first
        | (go_at_call 59; exact Later.call (sum_any _ _ _ (hvw.below (Subtype.property _)) hok))
        | (go_at_call 53; exact Later.call (within_any _ _ _ _))))
      refine wpQuiet_nil ?_
      intro w2 hx2
      have hb2 := Later.out hx2
      clear hx2 g1 g2
      go_wp2
      go_ret
      exact gives_bool (by simp [partB, lowB_yes fun j hj => Hall.out j (by omega)]) (hW.trans (hb2.mono hW.size))

/-- part -/
theorem part_same (a b t : Int) (w : World) (h0 : 0 ≤ t) (ha : 0 ≤ a) (ha1 : a ≤ 10000000) (hb : 0 ≤ b) (hb1 : b ≤ 1000000) : Calls Try.prog 58 #[.int .i64 a, .int .i64 b, .int .i64 t] w (Same w (.int .i64 (getI a b t))) := by
  have hmb := mul_bd ha ha1 hb hb1
  by_cases hz : t = 0
  · have e : getI a b t = 0 := by simp [getI, hz]
    rw [e]; clear e
    have hz1 : (t == 0) = true := by simpa using hz
    clear hz
    go_enter Try.func58, Try.ntmps58
    go_wp2
    go_ret
    exact ⟨rfl, rfl⟩
  · have hz1 : (t == 0) = false := by simpa using hz
    have hp : 1 ≤ t := by omega
    rw [getI_pos hz]
    clear hz
    go_enter Try.func58, Try.ntmps58
    go_wp2
    go_ret
    exact ⟨rfl, rfl⟩
end Go.Proofs.Ytobeffjdfhkjeaa
