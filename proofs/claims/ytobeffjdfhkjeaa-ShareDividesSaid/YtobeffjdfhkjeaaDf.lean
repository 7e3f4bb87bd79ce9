import Derived.Test.YtobeffjdfhkjeaaDe
import Derived.Test.YtobeffjdfhkjeaaWake
set_option linter.unusedVariables false
set_option linter.unusedSimpArgs false
namespace Go.Proofs.Ytobeffjdfhkjeaa
open Go Go.Proofs Go.RowKit

set_option maxRecDepth 100000 in
set_option maxHeartbeats 1600000 in
theorem Divides_law (coins : Int) (v : Value) (ws : List Int) (w : World) (hv : NumsAt .i64 w v ws) :
    Calls Try.prog 13 #[.int .i64 coins, v] w (Gives w (.bool true)) := by
  obtain ⟨A, c, rfl, hc, hm⟩ := hv.form
  by_cases h12 : 12 < ws.length
  · have h12I : (12 : Int) < (ws.length : Int) := by omega
    go_enter Try.func13, Try.ntmps13
    go_wp2_with fail
    refine (wakes_any _).mono ?_; rintro e w1 ⟨rfl, hb1⟩
    go_wp2
    go_ret
    exact ⟨rfl, hb1⟩
  · have h12I : (ws.length : Int) ≤ 12 := by omega
    by_cases hf : divFault coins ws = 0
    · have hd := divOk_of hf
      have Hd := Lib.hid hd
      clear hd
      go_enter Try.func13, Try.ntmps13
      go_wp2_with fail
      refine (list_any _ ws _ hv (by omega)).mono ?_; rintro e w1 ⟨A1, c1, rfl, o1, hb1⟩
      go_wp2_with fail
      refine (Divide_ok coins _ ws _ (nums_of_own o1) Hd.out).mono ?_; rintro e w2 ⟨A2, c2, rfl, o2, hb2⟩
      have hw2 := hb1.trans (hb2.mono hb1.size)
      go_wp2_with fail
      refine (DivideFault_any coins _ ws _ (hv.below hw2)).mono ?_; rintro e w3 ⟨rfl, hb3⟩
      rw [hf]
      have hw3 := hw2.trans (hb3.mono hw2.size)
      go_wp2_with fail
      refine (refDivide_any coins _ ws _ (hv.below hw3) Hd.out).mono ?_; rintro e w4 ⟨A4, c4, rfl, o4, hb4⟩
      have hw4 := hw3.trans (hb4.mono hw3.size)
      have o24 := own_below (own_below o2 hb3) hb4
      have n4 := nums_of_own o4
      have n2 : NumsAt .i64 w4 (.slice A2 ws.length c2) (divL coins ws) := by
        rw [rowF_map] at o24
        exact nums_of_own (l := divL coins ws) o24 |> fun h => by simpa [divL_length] using h
      rw [divL_length] at n4
      try rw [divL_length]
      have hi := ints_any _ _ _ _ w4 n2 n4
      simp only [decide_true] at hi
      clear o24 o4 o2 o1
      go_wp2_with fail
      refine hi.mono ?_; rintro e w5 ⟨rfl, hb5⟩
      have hw5 := hw4.trans (hb5.mono hw4.size)
      go_wp2_with fail
      refine (wakes_any _).mono ?_; rintro e w6 ⟨rfl, hb6⟩
      go_wp2
      go_ret
      exact ⟨rfl, hw5.trans (hb6.mono hw5.size)⟩
    · have hf0 : (divFault coins ws == 0) = false := beq_eq_false_iff_ne.2 hf
      have hf1 : (divFault coins ws != 0) = true := by simp [hf]
      have Hf := Lib.hid hf
      clear hf
      go_enter Try.func13, Try.ntmps13
      go_wp2_with fail
      refine (list_any _ ws _ hv (by omega)).mono ?_; rintro e w1 ⟨A1, c1, rfl, o1, hb1⟩
      go_wp2_with fail
      refine (Divide_fault coins _ ws _ (nums_of_own o1) Hf.out).mono ?_; rintro e w2 ⟨rfl, hb2⟩
      have hw2 := hb1.trans (hb2.mono hb1.size)
      go_wp2_with fail
      refine (DivideFault_any coins _ ws _ (hv.below hw2)).mono ?_; rintro e w3 ⟨rfl, hb3⟩
      have hw3 := hw2.trans (hb3.mono hw2.size)
      go_wp2_with fail
      refine (wakes_any _).mono ?_; rintro e w6 ⟨rfl, hb6⟩
      go_wp2
      go_ret
      exact ⟨rfl, hw3.trans (hb6.mono hw3.size)⟩
end Go.Proofs.Ytobeffjdfhkjeaa
