import Derived.Test.YtckgapeednokjaaGreatK2
import Derived.Test.YtckgapeednokjaaGreatTa
set_option linter.unusedVariables false
set_option linter.unusedSimpArgs false
namespace Go.Proofs.YtckgapeednokjaaGreat
open Go Go.Proofs Go.RowKit
/-- A slice of trips. -/
def TripsAt (w : World) (v : Value) (l : List Trip) : Prop :=
  ∃ A c, v = .slice A l.length c ∧ l.length ≤ c ∧ c ≤ maxLen ∧
    (0 < l.length → ∃ b o, A = some ⟨b, o, none⟩ ∧ ∀ k r, l[k]? = some r → w.cell? ⟨b, o + k * 6, none⟩ = some (.int .i64 r.fr) ∧ w.cell? ⟨b, o + k * 6 + 1, none⟩ = some (.int .i64 r.to) ∧ w.cell? ⟨b, o + k * 6 + 2, none⟩ = some (.int .i64 r.start) ∧ w.cell? ⟨b, o + k * 6 + 3, none⟩ = some (.int .i64 r.least) ∧ w.cell? ⟨b, o + k * 6 + 4, none⟩ = some (.int .i64 r.most) ∧ w.cell? ⟨b, o + k * 6 + 5, none⟩ = some (.int .i64 r.kind))
theorem TripsAt.below {w w' : World} {v : Value} {l : List Trip} (h : TripsAt w v l) (hb : Below w.heap.size w w') : TripsAt w' v l := by
  obtain ⟨A, c, rfl, h1, h2, h3⟩ := h
  refine ⟨A, c, rfl, h1, h2, fun hp => ?_⟩
  obtain ⟨b, o, e, hc⟩ := h3 hp
  refine ⟨b, o, e, fun k r hr => ?_⟩
  obtain ⟨c0, c1, c2, c3, c4, c5⟩ := hc k r hr
  exact ⟨cell_below hb c0, cell_below hb c1, cell_below hb c2, cell_below hb c3, cell_below hb c4, cell_below hb c5⟩
theorem TripsAt.form {w : World} {v : Value} {l : List Trip} (h : TripsAt w v l) : ∃ A c, v = .slice A l.length c ∧ l.length ≤ c ∧ c ≤ 9223372036854775807 := by
  obtain ⟨A, c, e, h1, h2, _⟩ := h
  exact ⟨A, c, e, h1, by simpa [maxLen] using h2⟩
theorem TripsAt.at_ {w : World} {A : Option Addr} {n c : Nat} {l : List Trip} (h : TripsAt w (.slice A n c) l) {k : Nat} (hk : k < l.length) :
    ∃ b o r, A = some ⟨b, o, none⟩ ∧ l[k]? = some r ∧ w.cell? ⟨b, o + k * 6, none⟩ = some (.int .i64 r.fr) ∧ w.cell? ⟨b, o + k * 6 + 1, none⟩ = some (.int .i64 r.to) ∧ w.cell? ⟨b, o + k * 6 + 2, none⟩ = some (.int .i64 r.start) ∧ w.cell? ⟨b, o + k * 6 + 3, none⟩ = some (.int .i64 r.least) ∧ w.cell? ⟨b, o + k * 6 + 4, none⟩ = some (.int .i64 r.most) ∧ w.cell? ⟨b, o + k * 6 + 5, none⟩ = some (.int .i64 r.kind) ∧ b < w.heap.size := by
  obtain ⟨A', c', e, _, _, hT⟩ := h
  cases e
  obtain ⟨b, o, e, hc⟩ := hT (by omega)
  obtain ⟨h0, h1, h2, h3, h4, h5⟩ := hc k l[k] (List.getElem?_eq_getElem hk)
  exact ⟨b, o, _, e, List.getElem?_eq_getElem hk, h0, h1, h2, h3, h4, h5, World.block_lt_of_cell? _ _ h0⟩

theorem all1_intsR (B : Nat) (fn : Fn) (fs cs : Array Value) (b : Bool) (x : Int) (w : World) (hB : w.cell? ⟨B, 0, none⟩ = some (.func fn fs cs))
    (hf : ∀ (w' : World), Below w.heap.size w w' → CallsVal Tryz.prog (.func fn fs cs) #[.int .i64 x] w' (Gives w' (.bool b))) :
    CallsVal Tryz.prog (.func (.func 135) #[] #[.pointer (some ⟨B, 0, none⟩)]) #[.int .i64 x] w (Gives w (.bool (!b))) := by
  refine ⟨135, #[.int .i64 x, .pointer (some ⟨B, 0, none⟩)], by kernel_rfl, ?_⟩
  have hlt := World.block_lt_of_cell? _ _ hB
  have Hf := Lib.hid hf
  clear hf
  go_enter Tryz.func135, Tryz.ntmps135
  go_wp2_with (refine wpList_callv (.tmp 4) [.tmp 5] #[3] rfl rfl (.func fn fs cs) rfl [.int .i64 x] rfl (.bool b) (Hf.out _ (Below.refl _ _)) ?_; intro w2 hb2)
  go_ret
  exact ⟨rfl, hb2⟩

theorem all_intsR (fn : Fn) (fs cs : Array Value) (p : Int → Bool) (v : Value) (l : List Int) (w : World) (hv : (NumsAt .i64) w v l)
    (hf : ∀ (k : Nat) (x : Int)  (w' : World), l[k]? = some x →  Below w.heap.size w w' → CallsVal Tryz.prog (.func fn fs cs) #[.int .i64 x] w' (Gives w' (.bool (p x)))) :
    Calls Tryz.prog 81 #[v, .func fn fs cs] w (Gives w (.bool (l.all p))) := by
  have hb0 : Below w.heap.size w (w.alloc (.cells #[.func fn fs cs] 103)) := (Below.refl _ _).alloc (Nat.le_refl _) _
  have Hc := Lib.hid (containsFunc_ints (.func 135) #[] #[.pointer (some ⟨w.heap.size, 0, none⟩)] (fun x => !p x) v l (w.alloc (.cells #[.func fn fs cs] 103)) (hv.below hb0)
    (fun k x  w' hx  hb => all1_intsR w.heap.size fn fs cs (p x) x w' (cell_below hb (by simp)) (fun w2 hb2 => hf k x  w2 hx  (hb0.trans ((hb.mono hb0.size).trans (hb2.mono (Nat.le_trans hb0.size hb.size)))))))
  clear hf
  go_enter Tryz.func81, Tryz.ntmps81
  go_wp2_with (go_at_call 76; refine Hc.out.mono ?_; rintro e w' ⟨rfl, hb⟩)
  go_ret
  exact gives_bool (any_not p l) (hb0.trans (hb.mono hb0.size))

/-! ### all of rows -/
theorem indexFunc_rows (fn : Fn) (fs cs : Array Value) (p : (List Int) → Bool) (v : Value) (l : List (List Int)) (w : World) (hv : RowsAt w v l)
    (hf : ∀ (k : Nat) (x : (List Int)) (u : Value) (w' : World), l[k]? = some x → NumsAt .i64 w' u x → Below w.heap.size w w' → CallsVal Tryz.prog (.func fn fs cs) #[u] w' (Gives w' (.bool (p x)))) :
    Calls Tryz.prog 191 #[v, .func fn fs cs] w (Gives w (.int .i64 (ixOf p l))) := by
  obtain ⟨A, c, rfl, hc, hm, hT⟩ := hv
  unfold maxLen at hm
  have Hf := Lib.hid hf
  clear hf
  go_enter Tryz.func191, Tryz.ntmps191
  go_wp2
  go_loopw [5, 8] (fun i j wr => ∃ k : Nat, k ≤ l.length ∧ j = .int .i64 k ∧ Below w.heap.size w wr ∧ ∀ (j : Nat) (x : (List Int)), j < k → l[j]? = some x → p x = false) (fun i j wr => l.length - (intOf j).toNat)
  case atStart => exact ⟨0, by omega, rfl, Below.refl _ _, by intro j x h; omega⟩
  case round =>
    obtain ⟨k, hk, rfl, hb, hall⟩ := hrel
    have Hall := Lib.hid hall
    clear hall
    by_cases hlt : k < l.length
    · obtain ⟨b, o, rfl, hT'⟩ := hT (by omega)
      obtain ⟨x, hx0⟩ : ∃ x, l[k]? = some x := ⟨_, List.getElem?_eq_getElem hlt⟩
      obtain ⟨u, c0, hn⟩ := hT' k hlt
      rw [hx0, Option.getD_some] at hn
      replace c0 := cell_below hb c0
      replace hn := hn.below hb
      have Hc := Lib.hid (Hf.out k x u wr hx0 hn hb)
      have Hx0 := Lib.hid hx0
      clear hx0 hT hT'
      go_wp2_with (refine wpList_callv (.tmp 11) [.tmp 15] #[29] rfl rfl (.func fn fs cs) rfl [u] rfl (.bool (p x)) Hc.out ?_; intro w2 hb2)
      · have hp : p x = true := by assumption
        go_ret
        exact gives_int (ixOf_hit Hall.out Hx0.out hp).symm (hb.trans (hb2.mono hb.size))
      · have hp : p x = false := by assumption
        go_roundw
        case rel =>
          refine ⟨k + 1, by omega, by go_num, hb.trans (hb2.mono hb.size), fun j y hj hy => ?_⟩
          by_cases e : j = k
          · subst e
            rw [Hx0.out] at hy
            cases hy
            exact hp
          · exact Hall.out j y (by omega) hy
        case measure => simp [intOf]; omega
    · go_wp2
      go_ret
      exact gives_int (ixOf_none fun j x hj hx => Hall.out j x (by omega) hx).symm hb

theorem containsFunc_rows (fn : Fn) (fs cs : Array Value) (p : (List Int) → Bool) (v : Value) (l : List (List Int)) (w : World) (hv : RowsAt w v l)
    (hf : ∀ (k : Nat) (x : (List Int)) (u : Value) (w' : World), l[k]? = some x → NumsAt .i64 w' u x → Below w.heap.size w w' → CallsVal Tryz.prog (.func fn fs cs) #[u] w' (Gives w' (.bool (p x)))) :
    Calls Tryz.prog 136 #[v, .func fn fs cs] w (Gives w (.bool (l.any p))) := by
  have Hc := Lib.hid (indexFunc_rows fn fs cs p v l w hv hf)
  clear hf
  go_enter Tryz.func136, Tryz.ntmps136
  go_wp2_with (go_at_call 191; refine Hc.out.mono ?_; rintro e w' ⟨rfl, hb⟩)
  go_ret
  exact gives_bool (ixOf_any p l) hb


theorem all1_rows (B : Nat) (fn : Fn) (fs cs : Array Value) (b : Bool) (u : Value) (w : World) (hB : w.cell? ⟨B, 0, none⟩ = some (.func fn fs cs))
    (hf : ∀ (w' : World), Below w.heap.size w w' → CallsVal Tryz.prog (.func fn fs cs) #[u] w' (Gives w' (.bool b))) :
    CallsVal Tryz.prog (.func (.func 137) #[] #[.pointer (some ⟨B, 0, none⟩)]) #[u] w (Gives w (.bool (!b))) := by
  refine ⟨137, #[u, .pointer (some ⟨B, 0, none⟩)], by kernel_rfl, ?_⟩
  have hlt := World.block_lt_of_cell? _ _ hB
  have Hf := Lib.hid hf
  clear hf
  go_enter Tryz.func137, Tryz.ntmps137
  go_wp2_with (refine wpList_callv (.tmp 4) [.tmp 5] #[29] rfl rfl (.func fn fs cs) rfl [u] rfl (.bool b) (Hf.out _ (Below.refl _ _)) ?_; intro w2 hb2)
  go_ret
  exact ⟨rfl, hb2⟩

theorem all_rows (fn : Fn) (fs cs : Array Value) (p : (List Int) → Bool) (v : Value) (l : List (List Int)) (w : World) (hv : RowsAt w v l)
    (hf : ∀ (k : Nat) (x : (List Int)) (u : Value) (w' : World), l[k]? = some x → NumsAt .i64 w' u x → Below w.heap.size w w' → CallsVal Tryz.prog (.func fn fs cs) #[u] w' (Gives w' (.bool (p x)))) :
    Calls Tryz.prog 84 #[v, .func fn fs cs] w (Gives w (.bool (l.all p))) := by
  have hb0 : Below w.heap.size w (w.alloc (.cells #[.func fn fs cs] 184)) := (Below.refl _ _).alloc (Nat.le_refl _) _
  have Hc := Lib.hid (containsFunc_rows (.func 137) #[] #[.pointer (some ⟨w.heap.size, 0, none⟩)] (fun x => !p x) v l (w.alloc (.cells #[.func fn fs cs] 184)) (hv.below hb0)
    (fun k x u w' hx hn hb => all1_rows w.heap.size fn fs cs (p x) u w' (cell_below hb (by simp)) (fun w2 hb2 => hf k x u w2 hx (hn.below hb2) (hb0.trans ((hb.mono hb0.size).trans (hb2.mono (Nat.le_trans hb0.size hb.size)))))))
  clear hf
  go_enter Tryz.func84, Tryz.ntmps84
  go_wp2_with (go_at_call 136; refine Hc.out.mono ?_; rintro e w' ⟨rfl, hb⟩)
  go_ret
  exact gives_bool (any_not p l) (hb0.trans (hb.mono hb0.size))

/-! ### all of trips -/
theorem indexFunc_trips (fn : Fn) (fs cs : Array Value) (p : Trip → Bool) (v : Value) (l : List Trip) (w : World) (hv : TripsAt w v l)
    (hf : ∀ (k : Nat) (x : Trip)  (w' : World), l[k]? = some x →  Below w.heap.size w w' → CallsVal Tryz.prog (.func fn fs cs) #[.agg #[.int .i64 x.fr, .int .i64 x.to, .int .i64 x.start, .int .i64 x.least, .int .i64 x.most, .int .i64 x.kind]] w' (Gives w' (.bool (p x)))) :
    Calls Tryz.prog 192 #[v, .func fn fs cs] w (Gives w (.int .i64 (ixOf p l))) := by
  obtain ⟨A, c, rfl, hc, hm, hT⟩ := hv
  unfold maxLen at hm
  have Hf := Lib.hid hf
  clear hf
  go_enter Tryz.func192, Tryz.ntmps192
  go_wp2
  go_loopw [5, 8] (fun i j wr => ∃ k : Nat, k ≤ l.length ∧ j = .int .i64 k ∧ Below w.heap.size w wr ∧ ∀ (j : Nat) (x : Trip), j < k → l[j]? = some x → p x = false) (fun i j wr => l.length - (intOf j).toNat)
  case atStart => exact ⟨0, by omega, rfl, Below.refl _ _, by intro j x h; omega⟩
  case round =>
    obtain ⟨k, hk, rfl, hb, hall⟩ := hrel
    have Hall := Lib.hid hall
    clear hall
    by_cases hlt : k < l.length
    · obtain ⟨b, o, rfl, hT'⟩ := hT (by omega)
      obtain ⟨x, hx0⟩ : ∃ x, l[k]? = some x := ⟨_, List.getElem?_eq_getElem hlt⟩
      obtain ⟨c0, c1, c2, c3, c4, c5⟩ := hT' k x hx0
      replace c0 := cell_below hb c0
      replace c1 := cell_below hb c1
      replace c2 := cell_below hb c2
      replace c3 := cell_below hb c3
      replace c4 := cell_below hb c4
      replace c5 := cell_below hb c5
      have Hc := Lib.hid (Hf.out k x  wr hx0  hb)
      have Hx0 := Lib.hid hx0
      clear hx0 hT hT'
      go_wp2_with (refine wpList_callv (.tmp 11) [.tmp 15] #[112] rfl rfl (.func fn fs cs) rfl [.agg #[.int .i64 x.fr, .int .i64 x.to, .int .i64 x.start, .int .i64 x.least, .int .i64 x.most, .int .i64 x.kind]] rfl (.bool (p x)) Hc.out ?_; intro w2 hb2)
      · have hp : p x = true := by assumption
        go_ret
        exact gives_int (ixOf_hit Hall.out Hx0.out hp).symm (hb.trans (hb2.mono hb.size))
      · have hp : p x = false := by assumption
        go_roundw
        case rel =>
          refine ⟨k + 1, by omega, by go_num, hb.trans (hb2.mono hb.size), fun j y hj hy => ?_⟩
          by_cases e : j = k
          · subst e
            rw [Hx0.out] at hy
            cases hy
            exact hp
          · exact Hall.out j y (by omega) hy
        case measure => simp [intOf]; omega
    · go_wp2
      go_ret
      exact gives_int (ixOf_none fun j x hj hx => Hall.out j x (by omega) hx).symm hb

theorem containsFunc_trips (fn : Fn) (fs cs : Array Value) (p : Trip → Bool) (v : Value) (l : List Trip) (w : World) (hv : TripsAt w v l)
    (hf : ∀ (k : Nat) (x : Trip)  (w' : World), l[k]? = some x →  Below w.heap.size w w' → CallsVal Tryz.prog (.func fn fs cs) #[.agg #[.int .i64 x.fr, .int .i64 x.to, .int .i64 x.start, .int .i64 x.least, .int .i64 x.most, .int .i64 x.kind]] w' (Gives w' (.bool (p x)))) :
    Calls Tryz.prog 139 #[v, .func fn fs cs] w (Gives w (.bool (l.any p))) := by
  have Hc := Lib.hid (indexFunc_trips fn fs cs p v l w hv hf)
  clear hf
  go_enter Tryz.func139, Tryz.ntmps139
  go_wp2_with (go_at_call 192; refine Hc.out.mono ?_; rintro e w' ⟨rfl, hb⟩)
  go_ret
  exact gives_bool (ixOf_any p l) hb


theorem all1_trips (B : Nat) (fn : Fn) (fs cs : Array Value) (b : Bool) (x : Trip) (w : World) (hB : w.cell? ⟨B, 0, none⟩ = some (.func fn fs cs))
    (hf : ∀ (w' : World), Below w.heap.size w w' → CallsVal Tryz.prog (.func fn fs cs) #[.agg #[.int .i64 x.fr, .int .i64 x.to, .int .i64 x.start, .int .i64 x.least, .int .i64 x.most, .int .i64 x.kind]] w' (Gives w' (.bool b))) :
    CallsVal Tryz.prog (.func (.func 140) #[] #[.pointer (some ⟨B, 0, none⟩)]) #[.agg #[.int .i64 x.fr, .int .i64 x.to, .int .i64 x.start, .int .i64 x.least, .int .i64 x.most, .int .i64 x.kind]] w (Gives w (.bool (!b))) := by
  refine ⟨140, #[.agg #[.int .i64 x.fr, .int .i64 x.to, .int .i64 x.start, .int .i64 x.least, .int .i64 x.most, .int .i64 x.kind], .pointer (some ⟨B, 0, none⟩)], by kernel_rfl, ?_⟩
  have hlt := World.block_lt_of_cell? _ _ hB
  have Hf := Lib.hid hf
  clear hf
  go_enter Tryz.func140, Tryz.ntmps140
  go_wp2_with (refine wpList_callv (.tmp 4) [.tmp 5] #[112] rfl rfl (.func fn fs cs) rfl [.agg #[.int .i64 x.fr, .int .i64 x.to, .int .i64 x.start, .int .i64 x.least, .int .i64 x.most, .int .i64 x.kind]] rfl (.bool b) (Hf.out _ ((Below.refl _ _).alloc (Nat.le_refl _) _)) ?_; intro w2 hb2)
  go_ret
  exact ⟨rfl, ((Below.refl _ _).alloc (Nat.le_refl _) _).trans (hb2.mono (by simp))⟩

theorem all_trips (fn : Fn) (fs cs : Array Value) (p : Trip → Bool) (v : Value) (l : List Trip) (w : World) (hv : TripsAt w v l)
    (hf : ∀ (k : Nat) (x : Trip)  (w' : World), l[k]? = some x →  Below w.heap.size w w' → CallsVal Tryz.prog (.func fn fs cs) #[.agg #[.int .i64 x.fr, .int .i64 x.to, .int .i64 x.start, .int .i64 x.least, .int .i64 x.most, .int .i64 x.kind]] w' (Gives w' (.bool (p x)))) :
    Calls Tryz.prog 86 #[v, .func fn fs cs] w (Gives w (.bool (l.all p))) := by
  have hb0 : Below w.heap.size w (w.alloc (.cells #[.func fn fs cs] 186)) := (Below.refl _ _).alloc (Nat.le_refl _) _
  have Hc := Lib.hid (containsFunc_trips (.func 140) #[] #[.pointer (some ⟨w.heap.size, 0, none⟩)] (fun x => !p x) v l (w.alloc (.cells #[.func fn fs cs] 186)) (hv.below hb0)
    (fun k x  w' hx  hb => all1_trips w.heap.size fn fs cs (p x) x w' (cell_below hb (by simp)) (fun w2 hb2 => hf k x  w2 hx  (hb0.trans ((hb.mono hb0.size).trans (hb2.mono (Nat.le_trans hb0.size hb.size)))))))
  clear hf
  go_enter Tryz.func86, Tryz.ntmps86
  go_wp2_with (go_at_call 139; refine Hc.out.mono ?_; rintro e w' ⟨rfl, hb⟩)
  go_ret
  exact gives_bool (any_not p l) (hb0.trans (hb.mono hb0.size))
end Go.Proofs.YtckgapeednokjaaGreat
