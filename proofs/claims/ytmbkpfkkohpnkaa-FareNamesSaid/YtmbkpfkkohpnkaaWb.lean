import Derived.Test.YtmbkpfkkohpnkaaWo2
set_option linter.unusedVariables false
set_option linter.unusedSimpArgs false
namespace Go.Proofs.Ytmbkpfkkohpnkaa
open Go Go.Proofs Go.RowKit

/-! ### all of ints -/
set_option maxRecDepth 100000 in
theorem indexFunc_ints (fn : Fn) (fs cs : Array Value) (p : Int → Bool) (v : Value) (l : List Int) (w : World) (hv : NumsAt .i64 w v l)
    (hf : ∀ (k : Nat) (x : Int)  (w' : World), l[k]? = some x →  Below w.heap.size w w' → CallsVal Try.prog (.func fn fs cs) #[.int .i64 x] w' (Gives w' (.bool (p x)))) :
    Calls Try.prog 96 #[v, .func fn fs cs] w (Gives w (.int .i64 (ixOf p l))) := by
  obtain ⟨A, c, rfl, hc, hm, hT⟩ := hv
  unfold maxLen at hm
  have Hf := Lib.hid hf
  clear hf
  go_enter Try.func96, Try.ntmps96
  go_wp2
  go_loopw [5, 8] (fun i j wr => ∃ k : Nat, k ≤ l.length ∧ j = .int .i64 k ∧ Below w.heap.size w wr ∧ ∀ (j : Nat) (x : Int), j < k → l[j]? = some x → p x = false) (fun i j wr => l.length - (intOf j).toNat)
  case atStart => exact ⟨0, by omega, rfl, Below.refl _ _, by intro j x h; omega⟩
  case round =>
    obtain ⟨k, hk, rfl, hb, hall⟩ := hrel
    have Hall := Lib.hid hall
    clear hall
    by_cases hlt : k < l.length
    · obtain ⟨b, o, rfl, hT'⟩ := hT (by omega)
      obtain ⟨x, hx0⟩ : ∃ x, l[k]? = some x := ⟨_, List.getElem?_eq_getElem hlt⟩
      have hx := cell_below hb (hT' k hlt)
      rw [hx0] at hx
      simp only [Option.getD_some] at hx
      have Hc := Lib.hid (Hf.out k x  wr hx0  hb)
      have Hx0 := Lib.hid hx0
      clear hx0 hT hT'
      go_wp2_with (refine wpList_callv (.tmp 11) [.tmp 15] #[3] rfl rfl (.func fn fs cs) rfl [.int .i64 x] rfl (.bool (p x)) Hc.out ?_; intro w2 hb2)
      · have hp : p x = true := by assumption
        go_ret
        exact gives_int (ixOf_hit Hall.out Hx0.out hp).symm (hb.trans (hb2.mono hb.size))
      · have hp : p x = false := by assumption
        go_roundw
        case rel =>
          refine ⟨k + 1, by omega, by go_num, hb.trans (hb2.mono hb.size), fun j y hj hy => ?_⟩
          by_cases e : j = k
          · subst e
            rw [Hx0.out] at hy
            cases hy
            exact hp
          · exact Hall.out j y (by omega) hy
        case measure => simp [intOf]; omega
    · go_wp2
      go_ret
      exact gives_int (ixOf_none fun j x hj hx => Hall.out j x (by omega) hx).symm hb
theorem containsFunc_ints (fn : Fn) (fs cs : Array Value) (p : Int → Bool) (v : Value) (l : List Int) (w : World) (hv : NumsAt .i64 w v l)
    (hf : ∀ (k : Nat) (x : Int)  (w' : World), l[k]? = some x →  Below w.heap.size w w' → CallsVal Try.prog (.func fn fs cs) #[.int .i64 x] w' (Gives w' (.bool (p x)))) :
    Calls Try.prog 74 #[v, .func fn fs cs] w (Gives w (.bool (l.any p))) := by
  have Hc := Lib.hid (indexFunc_ints fn fs cs p v l w hv hf)
  clear hf
  go_enter Try.func74, Try.ntmps74
  go_wp2_with (go_at_call 96; refine Hc.out.mono ?_; rintro e w' ⟨rfl, hb⟩)
  go_ret
  exact gives_bool (ixOf_any p l) hb
theorem all1_ints (B : Nat) (fn : Fn) (fs cs : Array Value) (b : Bool) (x : Int) (w : World) (hB : w.cell? ⟨B, 0, none⟩ = some (.func fn fs cs))
    (hf : ∀ (w' : World), Below w.heap.size w w' → CallsVal Try.prog (.func fn fs cs) #[.int .i64 x] w' (Gives w' (.bool b))) :
    CallsVal Try.prog (.func (.func 75) #[] #[.pointer (some ⟨B, 0, none⟩)]) #[.int .i64 x] w (Gives w (.bool (!b))) := by
  refine ⟨75, #[.int .i64 x, .pointer (some ⟨B, 0, none⟩)], by kernel_rfl, ?_⟩
  have hlt := World.block_lt_of_cell? _ _ hB
  have Hf := Lib.hid hf
  clear hf
  go_enter Try.func75, Try.ntmps75
  go_wp2_with (refine wpList_callv (.tmp 4) [.tmp 5] #[3] rfl rfl (.func fn fs cs) rfl [.int .i64 x] rfl (.bool b) (Hf.out _ (Below.refl _ _)) ?_; intro w2 hb2)
  go_ret
  exact ⟨rfl, hb2⟩
theorem all_ints (fn : Fn) (fs cs : Array Value) (p : Int → Bool) (v : Value) (l : List Int) (w : World) (hv : NumsAt .i64 w v l)
    (hf : ∀ (k : Nat) (x : Int)  (w' : World), l[k]? = some x →  Below w.heap.size w w' → CallsVal Try.prog (.func fn fs cs) #[.int .i64 x] w' (Gives w' (.bool (p x)))) :
    Calls Try.prog 50 #[v, .func fn fs cs] w (Gives w (.bool (l.all p))) := by
  have hb0 : Below w.heap.size w (w.alloc (.cells #[.func fn fs cs] 93)) := (Below.refl _ _).alloc (Nat.le_refl _) _
  have Hc := Lib.hid (containsFunc_ints (.func 75) #[] #[.pointer (some ⟨w.heap.size, 0, none⟩)] (fun x => !p x) v l (w.alloc (.cells #[.func fn fs cs] 93)) (hv.below hb0)
    (fun k x  w' hx  hb => all1_ints w.heap.size fn fs cs (p x) x w' (cell_below hb (by simp)) (fun w2 hb2 => hf k x  w2 hx  (hb0.trans ((hb.mono hb0.size).trans (hb2.mono (Nat.le_trans hb0.size hb.size)))))))
  clear hf
  go_enter Try.func50, Try.ntmps50
  go_wp2_with (go_at_call 74; refine Hc.out.mono ?_; rintro e w' ⟨rfl, hb⟩)
  go_ret
  exact gives_bool (any_not p l) (hb0.trans (hb.mono hb0.size))
/-! ### all of rds -/
set_option maxRecDepth 100000 in
theorem indexFunc_rds (fn : Fn) (fs cs : Array Value) (p : Rd → Bool) (v : Value) (l : List Rd) (w : World) (hv : RdsAt w v l)
    (hf : ∀ (k : Nat) (x : Rd)  (w' : World), l[k]? = some x →  Below w.heap.size w w' → CallsVal Try.prog (.func fn fs cs) #[.agg #[.int .i64 x.day, .int .i64 x.minute, .int .i64 x.low, .int .i64 x.high]] w' (Gives w' (.bool (p x)))) :
    Calls Try.prog 93 #[v, .func fn fs cs] w (Gives w (.int .i64 (ixOf p l))) := by
  obtain ⟨A, c, rfl, hc, hm, hT⟩ := hv
  unfold maxLen at hm
  have Hf := Lib.hid hf
  clear hf
  go_enter Try.func93, Try.ntmps93
  go_wp2
  go_loopw [5, 8] (fun i j wr => ∃ k : Nat, k ≤ l.length ∧ j = .int .i64 k ∧ Below w.heap.size w wr ∧ ∀ (j : Nat) (x : Rd), j < k → l[j]? = some x → p x = false) (fun i j wr => l.length - (intOf j).toNat)
  case atStart => exact ⟨0, by omega, rfl, Below.refl _ _, by intro j x h; omega⟩
  case round =>
    obtain ⟨k, hk, rfl, hb, hall⟩ := hrel
    have Hall := Lib.hid hall
    clear hall
    by_cases hlt : k < l.length
    · obtain ⟨b, o, rfl, hT'⟩ := hT (by omega)
      obtain ⟨x, hx0⟩ : ∃ x, l[k]? = some x := ⟨_, List.getElem?_eq_getElem hlt⟩
      obtain ⟨c0, c1, c2, c3⟩ := hT' k x hx0
      replace c0 := cell_below hb c0
      replace c1 := cell_below hb c1
      replace c2 := cell_below hb c2
      replace c3 := cell_below hb c3
      have Hc := Lib.hid (Hf.out k x  wr hx0  hb)
      have Hx0 := Lib.hid hx0
      clear hx0 hT hT'
      go_wp2_with (refine wpList_callv (.tmp 11) [.tmp 15] #[70] rfl rfl (.func fn fs cs) rfl [.agg #[.int .i64 x.day, .int .i64 x.minute, .int .i64 x.low, .int .i64 x.high]] rfl (.bool (p x)) Hc.out ?_; intro w2 hb2)
      · have hp : p x = true := by assumption
        go_ret
        exact gives_int (ixOf_hit Hall.out Hx0.out hp).symm (hb.trans (hb2.mono hb.size))
      · have hp : p x = false := by assumption
        go_roundw
        case rel =>
          refine ⟨k + 1, by omega, by go_num, hb.trans (hb2.mono hb.size), fun j y hj hy => ?_⟩
          by_cases e : j = k
          · subst e
            rw [Hx0.out] at hy
            cases hy
            exact hp
          · exact Hall.out j y (by omega) hy
        case measure => simp [intOf]; omega
    · go_wp2
      go_ret
      exact gives_int (ixOf_none fun j x hj hx => Hall.out j x (by omega) hx).symm hb
theorem containsFunc_rds (fn : Fn) (fs cs : Array Value) (p : Rd → Bool) (v : Value) (l : List Rd) (w : World) (hv : RdsAt w v l)
    (hf : ∀ (k : Nat) (x : Rd)  (w' : World), l[k]? = some x →  Below w.heap.size w w' → CallsVal Try.prog (.func fn fs cs) #[.agg #[.int .i64 x.day, .int .i64 x.minute, .int .i64 x.low, .int .i64 x.high]] w' (Gives w' (.bool (p x)))) :
    Calls Try.prog 67 #[v, .func fn fs cs] w (Gives w (.bool (l.any p))) := by
  have Hc := Lib.hid (indexFunc_rds fn fs cs p v l w hv hf)
  clear hf
  go_enter Try.func67, Try.ntmps67
  go_wp2_with (go_at_call 93; refine Hc.out.mono ?_; rintro e w' ⟨rfl, hb⟩)
  go_ret
  exact gives_bool (ixOf_any p l) hb
theorem all1_rds (B : Nat) (fn : Fn) (fs cs : Array Value) (b : Bool) (x : Rd) (w : World) (hB : w.cell? ⟨B, 0, none⟩ = some (.func fn fs cs))
    (hf : ∀ (w' : World), Below w.heap.size w w' → CallsVal Try.prog (.func fn fs cs) #[.agg #[.int .i64 x.day, .int .i64 x.minute, .int .i64 x.low, .int .i64 x.high]] w' (Gives w' (.bool b))) :
    CallsVal Try.prog (.func (.func 95) #[] #[.pointer (some ⟨B, 0, none⟩)]) #[.agg #[.int .i64 x.day, .int .i64 x.minute, .int .i64 x.low, .int .i64 x.high]] w (Gives w (.bool (!b))) := by
  refine ⟨95, #[.agg #[.int .i64 x.day, .int .i64 x.minute, .int .i64 x.low, .int .i64 x.high], .pointer (some ⟨B, 0, none⟩)], by kernel_rfl, ?_⟩
  have hlt := World.block_lt_of_cell? _ _ hB
  have Hf := Lib.hid hf
  clear hf
  go_enter Try.func95, Try.ntmps95
  go_wp2_with (refine wpList_callv (.tmp 4) [.tmp 5] #[70] rfl rfl (.func fn fs cs) rfl [.agg #[.int .i64 x.day, .int .i64 x.minute, .int .i64 x.low, .int .i64 x.high]] rfl (.bool b) (Hf.out _ ((Below.refl _ _).alloc (Nat.le_refl _) _)) ?_; intro w2 hb2)
  go_ret
  exact ⟨rfl, ((Below.refl _ _).alloc (Nat.le_refl _) _).trans (hb2.mono (by simp))⟩
theorem all_rds (fn : Fn) (fs cs : Array Value) (p : Rd → Bool) (v : Value) (l : List Rd) (w : World) (hv : RdsAt w v l)
    (hf : ∀ (k : Nat) (x : Rd)  (w' : World), l[k]? = some x →  Below w.heap.size w w' → CallsVal Try.prog (.func fn fs cs) #[.agg #[.int .i64 x.day, .int .i64 x.minute, .int .i64 x.low, .int .i64 x.high]] w' (Gives w' (.bool (p x)))) :
    Calls Try.prog 72 #[v, .func fn fs cs] w (Gives w (.bool (l.all p))) := by
  have hb0 : Below w.heap.size w (w.alloc (.cells #[.func fn fs cs] 119)) := (Below.refl _ _).alloc (Nat.le_refl _) _
  have Hc := Lib.hid (containsFunc_rds (.func 95) #[] #[.pointer (some ⟨w.heap.size, 0, none⟩)] (fun x => !p x) v l (w.alloc (.cells #[.func fn fs cs] 119)) (hv.below hb0)
    (fun k x  w' hx  hb => all1_rds w.heap.size fn fs cs (p x) x w' (cell_below hb (by simp)) (fun w2 hb2 => hf k x  w2 hx  (hb0.trans ((hb.mono hb0.size).trans (hb2.mono (Nat.le_trans hb0.size hb.size)))))))
  clear hf
  go_enter Try.func72, Try.ntmps72
  go_wp2_with (go_at_call 67; refine Hc.out.mono ?_; rintro e w' ⟨rfl, hb⟩)
  go_ret
  exact gives_bool (any_not p l) (hb0.trans (hb.mono hb0.size))
/-! ### all of tks -/
set_option maxRecDepth 100000 in
theorem indexFunc_tks (fn : Fn) (fs cs : Array Value) (p : Tk → Bool) (v : Value) (l : List Tk) (w : World) (hv : TksAt w v l)
    (hf : ∀ (k : Nat) (x : Tk)  (w' : World), l[k]? = some x →  Below w.heap.size w w' → CallsVal Try.prog (.func fn fs cs) #[.agg #[.int .u8 (x.kind : Int), .int .i64 x.low, .int .i64 x.high, .int .i64 x.day, .int .i64 x.minute]] w' (Gives w' (.bool (p x)))) :
    Calls Try.prog 94 #[v, .func fn fs cs] w (Gives w (.int .i64 (ixOf p l))) := by
  obtain ⟨A, c, rfl, hc, hm, hT⟩ := hv
  unfold maxLen at hm
  have Hf := Lib.hid hf
  clear hf
  go_enter Try.func94, Try.ntmps94
  go_wp2
  go_loopw [5, 8] (fun i j wr => ∃ k : Nat, k ≤ l.length ∧ j = .int .i64 k ∧ Below w.heap.size w wr ∧ ∀ (j : Nat) (x : Tk), j < k → l[j]? = some x → p x = false) (fun i j wr => l.length - (intOf j).toNat)
  case atStart => exact ⟨0, by omega, rfl, Below.refl _ _, by intro j x h; omega⟩
  case round =>
    obtain ⟨k, hk, rfl, hb, hall⟩ := hrel
    have Hall := Lib.hid hall
    clear hall
    by_cases hlt : k < l.length
    · obtain ⟨b, o, rfl, hT'⟩ := hT (by omega)
      obtain ⟨x, hx0⟩ : ∃ x, l[k]? = some x := ⟨_, List.getElem?_eq_getElem hlt⟩
      obtain ⟨c0, c1, c2, c3, c4⟩ := hT' k x hx0
      replace c0 := cell_below hb c0
      replace c1 := cell_below hb c1
      replace c2 := cell_below hb c2
      replace c3 := cell_below hb c3
      replace c4 := cell_below hb c4
      have Hc := Lib.hid (Hf.out k x  wr hx0  hb)
      have Hx0 := Lib.hid hx0
      clear hx0 hT hT'
      go_wp2_with (refine wpList_callv (.tmp 11) [.tmp 15] #[89] rfl rfl (.func fn fs cs) rfl [.agg #[.int .u8 (x.kind : Int), .int .i64 x.low, .int .i64 x.high, .int .i64 x.day, .int .i64 x.minute]] rfl (.bool (p x)) Hc.out ?_; intro w2 hb2)
      · have hp : p x = true := by assumption
        go_ret
        exact gives_int (ixOf_hit Hall.out Hx0.out hp).symm (hb.trans (hb2.mono hb.size))
      · have hp : p x = false := by assumption
        go_roundw
        case rel =>
          refine ⟨k + 1, by omega, by go_num, hb.trans (hb2.mono hb.size), fun j y hj hy => ?_⟩
          by_cases e : j = k
          · subst e
            rw [Hx0.out] at hy
            cases hy
            exact hp
          · exact Hall.out j y (by omega) hy
        case measure => simp [intOf]; omega
    · go_wp2
      go_ret
      exact gives_int (ixOf_none fun j x hj hx => Hall.out j x (by omega) hx).symm hb
theorem containsFunc_tks (fn : Fn) (fs cs : Array Value) (p : Tk → Bool) (v : Value) (l : List Tk) (w : World) (hv : TksAt w v l)
    (hf : ∀ (k : Nat) (x : Tk)  (w' : World), l[k]? = some x →  Below w.heap.size w w' → CallsVal Try.prog (.func fn fs cs) #[.agg #[.int .u8 (x.kind : Int), .int .i64 x.low, .int .i64 x.high, .int .i64 x.day, .int .i64 x.minute]] w' (Gives w' (.bool (p x)))) :
    Calls Try.prog 69 #[v, .func fn fs cs] w (Gives w (.bool (l.any p))) := by
  have Hc := Lib.hid (indexFunc_tks fn fs cs p v l w hv hf)
  clear hf
  go_enter Try.func69, Try.ntmps69
  go_wp2_with (go_at_call 94; refine Hc.out.mono ?_; rintro e w' ⟨rfl, hb⟩)
  go_ret
  exact gives_bool (ixOf_any p l) hb
theorem all1_tks (B : Nat) (fn : Fn) (fs cs : Array Value) (b : Bool) (x : Tk) (w : World) (hB : w.cell? ⟨B, 0, none⟩ = some (.func fn fs cs))
    (hf : ∀ (w' : World), Below w.heap.size w w' → CallsVal Try.prog (.func fn fs cs) #[.agg #[.int .u8 (x.kind : Int), .int .i64 x.low, .int .i64 x.high, .int .i64 x.day, .int .i64 x.minute]] w' (Gives w' (.bool b))) :
    CallsVal Try.prog (.func (.func 88) #[] #[.pointer (some ⟨B, 0, none⟩)]) #[.agg #[.int .u8 (x.kind : Int), .int .i64 x.low, .int .i64 x.high, .int .i64 x.day, .int .i64 x.minute]] w (Gives w (.bool (!b))) := by
  refine ⟨88, #[.agg #[.int .u8 (x.kind : Int), .int .i64 x.low, .int .i64 x.high, .int .i64 x.day, .int .i64 x.minute], .pointer (some ⟨B, 0, none⟩)], by kernel_rfl, ?_⟩
  have hlt := World.block_lt_of_cell? _ _ hB
  have Hf := Lib.hid hf
  clear hf
  go_enter Try.func88, Try.ntmps88
  go_wp2_with (refine wpList_callv (.tmp 4) [.tmp 5] #[89] rfl rfl (.func fn fs cs) rfl [.agg #[.int .u8 (x.kind : Int), .int .i64 x.low, .int .i64 x.high, .int .i64 x.day, .int .i64 x.minute]] rfl (.bool b) (Hf.out _ ((Below.refl _ _).alloc (Nat.le_refl _) _)) ?_; intro w2 hb2)
  go_ret
  exact ⟨rfl, ((Below.refl _ _).alloc (Nat.le_refl _) _).trans (hb2.mono (by simp))⟩
theorem all_tks (fn : Fn) (fs cs : Array Value) (p : Tk → Bool) (v : Value) (l : List Tk) (w : World) (hv : TksAt w v l)
    (hf : ∀ (k : Nat) (x : Tk)  (w' : World), l[k]? = some x →  Below w.heap.size w w' → CallsVal Try.prog (.func fn fs cs) #[.agg #[.int .u8 (x.kind : Int), .int .i64 x.low, .int .i64 x.high, .int .i64 x.day, .int .i64 x.minute]] w' (Gives w' (.bool (p x)))) :
    Calls Try.prog 63 #[v, .func fn fs cs] w (Gives w (.bool (l.all p))) := by
  have hb0 : Below w.heap.size w (w.alloc (.cells #[.func fn fs cs] 117)) := (Below.refl _ _).alloc (Nat.le_refl _) _
  have Hc := Lib.hid (containsFunc_tks (.func 88) #[] #[.pointer (some ⟨w.heap.size, 0, none⟩)] (fun x => !p x) v l (w.alloc (.cells #[.func fn fs cs] 117)) (hv.below hb0)
    (fun k x  w' hx  hb => all1_tks w.heap.size fn fs cs (p x) x w' (cell_below hb (by simp)) (fun w2 hb2 => hf k x  w2 hx  (hb0.trans ((hb.mono hb0.size).trans (hb2.mono (Nat.le_trans hb0.size hb.size)))))))
  clear hf
  go_enter Try.func63, Try.ntmps63
  go_wp2_with (go_at_call 69; refine Hc.out.mono ?_; rintro e w' ⟨rfl, hb⟩)
  go_ret
  exact gives_bool (any_not p l) (hb0.trans (hb.mono hb0.size))
/-! ### all of tps -/
set_option maxRecDepth 100000 in
theorem indexFunc_tps (fn : Fn) (fs cs : Array Value) (p : Tp → Bool) (v : Value) (l : List Tp) (w : World) (hv : TpsAt w v l)
    (hf : ∀ (k : Nat) (x : Tp)  (w' : World), l[k]? = some x →  Below w.heap.size w w' → CallsVal Try.prog (.func fn fs cs) #[.agg #[.int .i64 x.machine, .int .i64 x.number, .int .i64 x.card, .int .i64 x.ride.day, .int .i64 x.ride.minute, .int .i64 x.ride.low, .int .i64 x.ride.high]] w' (Gives w' (.bool (p x)))) :
    Calls Try.prog 113 #[v, .func fn fs cs] w (Gives w (.int .i64 (ixOf p l))) := by
  obtain ⟨A, c, rfl, hc, hm, hT⟩ := hv
  unfold maxLen at hm
  have Hf := Lib.hid hf
  clear hf
  go_enter Try.func113, Try.ntmps113
  go_wp2
  go_loopw [5, 8] (fun i j wr => ∃ k : Nat, k ≤ l.length ∧ j = .int .i64 k ∧ Below w.heap.size w wr ∧ ∀ (j : Nat) (x : Tp), j < k → l[j]? = some x → p x = false) (fun i j wr => l.length - (intOf j).toNat)
  case atStart => exact ⟨0, by omega, rfl, Below.refl _ _, by intro j x h; omega⟩
  case round =>
    obtain ⟨k, hk, rfl, hb, hall⟩ := hrel
    have Hall := Lib.hid hall
    clear hall
    by_cases hlt : k < l.length
    · obtain ⟨b, o, rfl, hT'⟩ := hT (by omega)
      obtain ⟨x, hx0⟩ : ∃ x, l[k]? = some x := ⟨_, List.getElem?_eq_getElem hlt⟩
      obtain ⟨c0, c1, c2, c3, c4, c5, c6⟩ := hT' k x hx0
      replace c0 := cell_below hb c0
      replace c1 := cell_below hb c1
      replace c2 := cell_below hb c2
      replace c3 := cell_below hb c3
      replace c4 := cell_below hb c4
      replace c5 := cell_below hb c5
      replace c6 := cell_below hb c6
      have Hc := Lib.hid (Hf.out k x  wr hx0  hb)
      have Hx0 := Lib.hid hx0
      clear hx0 hT hT'
      go_wp2_with (refine wpList_callv (.tmp 11) [.tmp 15] #[91] rfl rfl (.func fn fs cs) rfl [.agg #[.int .i64 x.machine, .int .i64 x.number, .int .i64 x.card, .int .i64 x.ride.day, .int .i64 x.ride.minute, .int .i64 x.ride.low, .int .i64 x.ride.high]] rfl (.bool (p x)) Hc.out ?_; intro w2 hb2)
      · have hp : p x = true := by assumption
        go_ret
        exact gives_int (ixOf_hit Hall.out Hx0.out hp).symm (hb.trans (hb2.mono hb.size))
      · have hp : p x = false := by assumption
        go_roundw
        case rel =>
          refine ⟨k + 1, by omega, by go_num, hb.trans (hb2.mono hb.size), fun j y hj hy => ?_⟩
          by_cases e : j = k
          · subst e
            rw [Hx0.out] at hy
            cases hy
            exact hp
          · exact Hall.out j y (by omega) hy
        case measure => simp [intOf]; omega
    · go_wp2
      go_ret
      exact gives_int (ixOf_none fun j x hj hx => Hall.out j x (by omega) hx).symm hb
theorem containsFunc_tps (fn : Fn) (fs cs : Array Value) (p : Tp → Bool) (v : Value) (l : List Tp) (w : World) (hv : TpsAt w v l)
    (hf : ∀ (k : Nat) (x : Tp)  (w' : World), l[k]? = some x →  Below w.heap.size w w' → CallsVal Try.prog (.func fn fs cs) #[.agg #[.int .i64 x.machine, .int .i64 x.number, .int .i64 x.card, .int .i64 x.ride.day, .int .i64 x.ride.minute, .int .i64 x.ride.low, .int .i64 x.ride.high]] w' (Gives w' (.bool (p x)))) :
    Calls Try.prog 103 #[v, .func fn fs cs] w (Gives w (.bool (l.any p))) := by
  have Hc := Lib.hid (indexFunc_tps fn fs cs p v l w hv hf)
  clear hf
  go_enter Try.func103, Try.ntmps103
  go_wp2_with (go_at_call 113; refine Hc.out.mono ?_; rintro e w' ⟨rfl, hb⟩)
  go_ret
  exact gives_bool (ixOf_any p l) hb
theorem all1_tps (B : Nat) (fn : Fn) (fs cs : Array Value) (b : Bool) (x : Tp) (w : World) (hB : w.cell? ⟨B, 0, none⟩ = some (.func fn fs cs))
    (hf : ∀ (w' : World), Below w.heap.size w w' → CallsVal Try.prog (.func fn fs cs) #[.agg #[.int .i64 x.machine, .int .i64 x.number, .int .i64 x.card, .int .i64 x.ride.day, .int .i64 x.ride.minute, .int .i64 x.ride.low, .int .i64 x.ride.high]] w' (Gives w' (.bool b))) :
    CallsVal Try.prog (.func (.func 104) #[] #[.pointer (some ⟨B, 0, none⟩)]) #[.agg #[.int .i64 x.machine, .int .i64 x.number, .int .i64 x.card, .int .i64 x.ride.day, .int .i64 x.ride.minute, .int .i64 x.ride.low, .int .i64 x.ride.high]] w (Gives w (.bool (!b))) := by
  refine ⟨104, #[.agg #[.int .i64 x.machine, .int .i64 x.number, .int .i64 x.card, .int .i64 x.ride.day, .int .i64 x.ride.minute, .int .i64 x.ride.low, .int .i64 x.ride.high], .pointer (some ⟨B, 0, none⟩)], by kernel_rfl, ?_⟩
  have hlt := World.block_lt_of_cell? _ _ hB
  have Hf := Lib.hid hf
  clear hf
  go_enter Try.func104, Try.ntmps104
  go_wp2_with (refine wpList_callv (.tmp 4) [.tmp 5] #[91] rfl rfl (.func fn fs cs) rfl [.agg #[.int .i64 x.machine, .int .i64 x.number, .int .i64 x.card, .int .i64 x.ride.day, .int .i64 x.ride.minute, .int .i64 x.ride.low, .int .i64 x.ride.high]] rfl (.bool b) (Hf.out _ ((Below.refl _ _).alloc (Nat.le_refl _) _)) ?_; intro w2 hb2)
  go_ret
  exact ⟨rfl, ((Below.refl _ _).alloc (Nat.le_refl _) _).trans (hb2.mono (by simp))⟩
theorem all_tps (fn : Fn) (fs cs : Array Value) (p : Tp → Bool) (v : Value) (l : List Tp) (w : World) (hv : TpsAt w v l)
    (hf : ∀ (k : Nat) (x : Tp)  (w' : World), l[k]? = some x →  Below w.heap.size w w' → CallsVal Try.prog (.func fn fs cs) #[.agg #[.int .i64 x.machine, .int .i64 x.number, .int .i64 x.card, .int .i64 x.ride.day, .int .i64 x.ride.minute, .int .i64 x.ride.low, .int .i64 x.ride.high]] w' (Gives w' (.bool (p x)))) :
    Calls Try.prog 85 #[v, .func fn fs cs] w (Gives w (.bool (l.all p))) := by
  have hb0 : Below w.heap.size w (w.alloc (.cells #[.func fn fs cs] 136)) := (Below.refl _ _).alloc (Nat.le_refl _) _
  have Hc := Lib.hid (containsFunc_tps (.func 104) #[] #[.pointer (some ⟨w.heap.size, 0, none⟩)] (fun x => !p x) v l (w.alloc (.cells #[.func fn fs cs] 136)) (hv.below hb0)
    (fun k x  w' hx  hb => all1_tps w.heap.size fn fs cs (p x) x w' (cell_below hb (by simp)) (fun w2 hb2 => hf k x  w2 hx  (hb0.trans ((hb.mono hb0.size).trans (hb2.mono (Nat.le_trans hb0.size hb.size)))))))
  clear hf
  go_enter Try.func85, Try.ntmps85
  go_wp2_with (go_at_call 103; refine Hc.out.mono ?_; rintro e w' ⟨rfl, hb⟩)
  go_ret
  exact gives_bool (any_not p l) (hb0.trans (hb.mono hb0.size))
end Go.Proofs.Ytmbkpfkkohpnkaa
