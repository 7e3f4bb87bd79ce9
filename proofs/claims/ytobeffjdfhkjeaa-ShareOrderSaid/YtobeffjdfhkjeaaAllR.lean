import Derived.Test.YtobeffjdfhkjeaaWords
import Derived.Test.YtobeffjdfhkjeaaProg
import Derived.WalkKit
import Derived.KernelRfl
import Derived.WalkSpells
import Derived.WalkLawsBesides
import Derived.BigQuiet
import Derived.Deep.QuietTactic
import Derived.Outline
set_option linter.unusedVariables false
set_option linter.unusedSimpArgs false
namespace Go.Proofs.Ytobeffjdfhkjeaa
open Go Go.Proofs Go.RowKit

/-! ### rows -/
theorem indexFunc_rows (fn : Fn) (fs cs : Array Value) (p : (List Int) → Bool) (v : Value) (l : List (List Int)) (w : World) (hv : RowsAt w v l)
    (hf : ∀ (k : Nat) (x : (List Int)) (u : Value) (w' : World), l[k]? = some x → NumsAt .i64 w' u x → Below w.heap.size w w' → CallsVal Try.prog (.func fn fs cs) #[u] w' (Gives w' (.bool (p x)))) :
    Calls Try.prog 104 #[v, .func fn fs cs] w (Gives w (.int .i64 (ixOf p l))) := by
  obtain ⟨A, c, rfl, hc, hm, hT⟩ := hv
  unfold maxLen at hm
  have Hf := Lib.hid hf
  clear hf
  go_enter Try.func104, Try.ntmps104
  go_wp2
  go_loopw [5, 8] (fun i j wr => ∃ k : Nat, k ≤ l.length ∧ j = .int .i64 k ∧ Below w.heap.size w wr ∧ ∀ (j : Nat) (x : (List Int)), j < k → l[j]? = some x → p x = false) (fun i j wr => l.length - (intOf j).toNat)
  case atStart => exact ⟨0, by omega, rfl, Below.refl _ _, by intro j x h; omega⟩
  case round =>
    obtain ⟨k, hk, rfl, hb, hall⟩ := hrel
    have Hall := Lib.hid hall
    clear hall
    by_cases hlt : k < l.length
    · obtain ⟨b, o, rfl, hT'⟩ := hT (by omega)
      obtain ⟨x, hx0⟩ : ∃ x, l[k]? = some x := ⟨_, List.getElem?_eq_getElem hlt⟩
      obtain ⟨u, hu, hx⟩ := hT' k hlt
      rw [hx0] at hx
      simp only [Option.getD_some] at hx
      have hx := cell_below hb hu
      have hn := NumsAt.below (by assumption) hb
      have Hc := Lib.hid (Hf.out k x u wr hx0 hn hb)
      have Hx0 := Lib.hid hx0
      clear hx0 hT hT'
      go_wp2_with (refine wpList_callv (.tmp 11) [.tmp 15] #[35] rfl rfl (.func fn fs cs) rfl [u] rfl (.bool (p x)) Hc.out ?_; intro w2 hb2)
      · have hp : p x = true := by assumption
        go_ret
        exact gives_int (ixOf_hit Hall.out Hx0.out hp).symm (hb.trans (hb2.mono hb.size))
      · have hp : p x = false := by assumption
        go_roundw
        case rel =>
          refine ⟨k + 1, by omega, by go_num, hb.trans (hb2.mono hb.size), fun j y hj hy => ?_⟩
          by_cases e : j = k
          · subst e
            rw [Hx0.out] at hy
            cases hy
            exact hp
          · exact Hall.out j y (by omega) hy
        case measure => simp [intOf]; omega
    · go_wp2
      go_ret
      exact gives_int (ixOf_none fun j x hj hx => Hall.out j x (by omega) hx).symm hb

theorem containsFunc_rows (fn : Fn) (fs cs : Array Value) (p : (List Int) → Bool) (v : Value) (l : List (List Int)) (w : World) (hv : RowsAt w v l)
    (hf : ∀ (k : Nat) (x : (List Int)) (u : Value) (w' : World), l[k]? = some x → NumsAt .i64 w' u x → Below w.heap.size w w' → CallsVal Try.prog (.func fn fs cs) #[u] w' (Gives w' (.bool (p x)))) :
    Calls Try.prog 90 #[v, .func fn fs cs] w (Gives w (.bool (l.any p))) := by
  have Hc := Lib.hid (indexFunc_rows fn fs cs p v l w hv hf)
  clear hf
  go_enter Try.func90, Try.ntmps90
  go_wp2_with (go_at_call 104; refine Hc.out.mono ?_; rintro e w' ⟨rfl, hb⟩)
  go_ret
  exact gives_bool (ixOf_any p l) hb

theorem all1_rows (B : Nat) (fn : Fn) (fs cs : Array Value) (b : Bool) (u : Value) (w : World) (hB : w.cell? ⟨B, 0, none⟩ = some (.func fn fs cs))
    (hf : ∀ (w' : World), Below w.heap.size w w' → CallsVal Try.prog (.func fn fs cs) #[u] w' (Gives w' (.bool b))) :
    CallsVal Try.prog (.func (.func 91) #[] #[.pointer (some ⟨B, 0, none⟩)]) #[u] w (Gives w (.bool (!b))) := by
  refine ⟨91, #[u, .pointer (some ⟨B, 0, none⟩)], by kernel_rfl, ?_⟩
  have hlt := World.block_lt_of_cell? _ _ hB
  have Hf := Lib.hid hf
  clear hf
  go_enter Try.func91, Try.ntmps91
  go_wp2_with (refine wpList_callv (.tmp 4) [.tmp 5] #[35] rfl rfl (.func fn fs cs) rfl [u] rfl (.bool b) (Hf.out _ (Below.refl _ _)) ?_; intro w2 hb2)
  go_ret
  exact ⟨rfl, hb2⟩

theorem all_rows (fn : Fn) (fs cs : Array Value) (p : (List Int) → Bool) (v : Value) (l : List (List Int)) (w : World) (hv : RowsAt w v l)
    (hf : ∀ (k : Nat) (x : (List Int)) (u : Value) (w' : World), l[k]? = some x → NumsAt .i64 w' u x → Below w.heap.size w w' → CallsVal Try.prog (.func fn fs cs) #[u] w' (Gives w' (.bool (p x)))) :
    Calls Try.prog 78 #[v, .func fn fs cs] w (Gives w (.bool (l.all p))) := by
  have hb0 : Below w.heap.size w (w.alloc (.cells #[.func fn fs cs] 112)) := (Below.refl _ _).alloc (Nat.le_refl _) _
  have Hc := Lib.hid (containsFunc_rows (.func 91) #[] #[.pointer (some ⟨w.heap.size, 0, none⟩)] (fun x => !p x) v l (w.alloc (.cells #[.func fn fs cs] 112)) (hv.below hb0)
    (fun k x u w' hx hn hb => all1_rows w.heap.size fn fs cs (p x) u w' (cell_below hb (by simp)) (fun w2 hb2 => hf k x u w2 hx (hn.below hb2) (hb0.trans ((hb.mono hb0.size).trans (hb2.mono (Nat.le_trans hb0.size hb.size)))))))
  clear hf
  go_enter Try.func78, Try.ntmps78
  go_wp2_with (go_at_call 90; refine Hc.out.mono ?_; rintro e w' ⟨rfl, hb⟩)
  go_ret
  exact gives_bool (any_not p l) (hb0.trans (hb.mono hb0.size))
end Go.Proofs.Ytobeffjdfhkjeaa
