import Derived.Test.YtckgapeednokjaaGreatUw
import Derived.Lib.LazyBuf
set_option linter.unusedVariables false
set_option linter.unusedSimpArgs false
namespace Go.Proofs.YtckgapeednokjaaGreat
open Go Go.Proofs Go.RowKit

/-! ### fare.Missing where nothing is told -/
theorem all1_fints (B : Nat) (fn : Fn) (fs cs : Array Value) (b : Bool) (x : Int) (w : World) (hB : w.cell? ⟨B, 0, none⟩ = some (.func fn fs cs))
    (hf : ∀ (w' : World), Below w.heap.size w w' → CallsVal Tryz.prog (.func fn fs cs) #[.int .i64 x] w' (Gives w' (.bool b))) :
    CallsVal Tryz.prog (.func (.func 165) #[] #[.pointer (some ⟨B, 0, none⟩)]) #[.int .i64 x] w (Gives w (.bool (!b))) := by
  refine ⟨165, #[.int .i64 x, .pointer (some ⟨B, 0, none⟩)], by kernel_rfl, ?_⟩
  have hlt := World.block_lt_of_cell? _ _ hB
  have Hf := Lib.hid hf
  clear hf
  go_enter Tryz.func165, Tryz.ntmps165
  go_wp2_with (refine wpList_callv (.tmp 4) [.tmp 5] #[3] rfl rfl (.func fn fs cs) rfl [.int .i64 x] rfl (.bool b) (Hf.out _ (Below.refl _ _)) ?_; intro w2 hb2)
  go_ret
  exact ⟨rfl, hb2⟩

theorem all_fints (fn : Fn) (fs cs : Array Value) (p : Int → Bool) (v : Value) (l : List Int) (w : World) (hv : NumsAt .i64 w v l)
    (hf : ∀ (k : Nat) (x : Int)  (w' : World), l[k]? = some x →  Below w.heap.size w w' → CallsVal Tryz.prog (.func fn fs cs) #[.int .i64 x] w' (Gives w' (.bool (p x)))) :
    Calls Tryz.prog 114 #[v, .func fn fs cs] w (Gives w (.bool (l.all p))) := by
  have hb0 : Below w.heap.size w (w.alloc (.cells #[.func fn fs cs] 103)) := (Below.refl _ _).alloc (Nat.le_refl _) _
  have Hc := Lib.hid (containsFunc_ints (.func 165) #[] #[.pointer (some ⟨w.heap.size, 0, none⟩)] (fun x => !p x) v l (w.alloc (.cells #[.func fn fs cs] 103)) (hv.below hb0)
    (fun k x  w' hx  hb => all1_fints w.heap.size fn fs cs (p x) x w' (cell_below hb (by simp)) (fun w2 hb2 => hf k x  w2 hx  (hb0.trans ((hb.mono hb0.size).trans (hb2.mono (Nat.le_trans hb0.size hb.size)))))))
  clear hf
  go_enter Tryz.func114, Tryz.ntmps114
  go_wp2_with (go_at_call 76; refine Hc.out.mono ?_; rintro e w' ⟨rfl, hb⟩)
  go_ret
  exact gives_bool (any_not p l) (hb0.trans (hb.mono hb0.size))
theorem withinF_same (n lo hi : Int) (w : World) : Calls Tryz.prog 111 #[.int .i64 n, .int .i64 lo, .int .i64 hi] w (Same w (.bool (inB n lo hi))) := by
  by_cases h1 : lo ≤ n
  · by_cases h2 : n ≤ hi
    · have e : inB n lo hi = true := by simp [inB, h1, h2]
      rw [e]; clear e
      go_enter Tryz.func111, Tryz.ntmps111
      go_wp2
      go_ret
      exact ⟨rfl, rfl⟩
    · have e : inB n lo hi = false := by simp [inB, h2]
      rw [e]; clear e
      go_enter Tryz.func111, Tryz.ntmps111
      go_wp2
      go_ret
      exact ⟨rfl, rfl⟩
  · have e : inB n lo hi = false := by simp [inB, h1]
    rw [e]; clear e
    go_enter Tryz.func111, Tryz.ntmps111
    go_wp2
    go_ret
    exact ⟨rfl, rfl⟩

/-! nothing to sort -/
set_option maxRecDepth 100000 in
theorem insF_nil (v f : Value) (w : World) : Calls Tryz.prog 232 #[v, .int .i64 0, .int .i64 0, f] w (Same w (.tuple #[])) := by
  go_enter Tryz.func232, Tryz.ntmps232
  go_wp2
  go_loop [8] (fun i => i = .int .i64 1) (fun i => 0)
  case atStart => rfl
  case round =>
    subst hrel
    go_wp2
    (try simp only [Exit.inBlock, Exit.then]); first | refine bodyPost_end (results_none rfl _ _ _) rfl ?_ | refine bodyPost_ret (results_none rfl _ _ _) rfl ?_
    exact ⟨rfl, rfl⟩
set_option maxRecDepth 100000 in
theorem pdqF_nil (v f : Value) (n : Int) (w : World) : Calls Tryz.prog 210 #[v, .int .i64 0, .int .i64 0, .int .i64 n, f] w (Same w (.tuple #[])) := by
  go_enter Tryz.func210, Tryz.ntmps210
  go_wp2
  go_loop [1, 2] (fun i j => i = .int .i64 0 ∧ j = .int .i64 0) (fun i j => 0)
  case atStart => exact ⟨rfl, rfl⟩
  case round =>
    obtain ⟨rfl, rfl⟩ := hrel
    go_wp2_with (go_at_call 232; refine (insF_nil _ _ _).mono ?_; rintro e w1 ⟨rfl, rfl⟩)
    (try simp only [Exit.inBlock, Exit.then]); first | refine bodyPost_end (results_none rfl _ _ _) rfl ?_ | refine bodyPost_ret (results_none rfl _ _ _) rfl ?_
    exact ⟨rfl, rfl⟩
set_option maxRecDepth 100000 in
theorem sortF_nil (A : Option Addr) (c : Nat) (f : Value) (w : World) : Calls Tryz.prog 169 #[.slice A 0 c, f] w (Same w (.tuple #[])) := by
  go_enter Tryz.func169, Tryz.ntmps169
  go_wp2_with (first
    | (go_at_call 79; refine (len_zero _).mono ?_; rintro e w1 ⟨rfl, rfl⟩)
    | (go_at_call 210; refine (pdqF_nil _ _ _ _).mono ?_; rintro e w1 ⟨rfl, rfl⟩))
  (try simp only [Exit.inBlock, Exit.then]); first | refine bodyPost_end (results_none rfl _ _ _) rfl ?_ | refine bodyPost_ret (results_none rfl _ _ _) rfl ?_
  exact ⟨rfl, rfl⟩

set_option maxRecDepth 100000 in
theorem cloneF_nil (w : World) : Calls Tryz.prog 168 #[.slice none 0 0] w (Same w (.slice none 0 0)) := by
  have hnil := fun W => Go.Lib.run_eql_slice_nil (P := Tryz.prog) W 165 215 none 0 0 0 0 Tryz.underlying165
  simp only [Option.isNone_none] at hnil
  go_enter Tryz.func168, Tryz.ntmps168
  go_wp2
  go_ret
  exact ⟨rfl, rfl⟩
set_option maxRecDepth 100000 in
theorem compF_nil (w : World) : Calls Tryz.prog 172 #[.slice none 0 0] w (Same w (.slice none 0 0)) := by
  go_enter Tryz.func172, Tryz.ntmps172
  go_wp2
  go_ret
  exact ⟨rfl, rfl⟩
set_option maxRecDepth 100000 in
theorem onceF_nil (w : World) : Calls Tryz.prog 116 #[.slice none 0 0] w (Same w (.slice none 0 0)) := by
  go_enter Tryz.func116, Tryz.ntmps116
  go_wp2_with fail
  refine (cloneF_nil _).mono ?_
  rintro e w1 ⟨rfl, rfl⟩
  go_wp2_with fail
  refine (sortF_nil none 0 _ _).mono ?_
  rintro e w1 ⟨rfl, rfl⟩
  go_wp2_with fail
  refine (compF_nil _).mono ?_
  rintro e w1 ⟨rfl, rfl⟩
  go_wp2
  go_ret
  exact ⟨rfl, rfl⟩
set_option maxRecDepth 100000 in
theorem ixTap_nil (f : Value) (w : World) : Calls Tryz.prog 209 #[.slice none 0 0, f] w (Same w (.int .i64 (-1))) := by
  go_enter Tryz.func209, Tryz.ntmps209
  go_wp2
  go_loop [5, 8] (fun i j => j = .int .i64 0) (fun i j => 0)
  case atStart => rfl
  case round =>
    subst hrel
    go_wp2
    go_ret
    exact ⟨rfl, rfl⟩
theorem coTap_nil (f : Value) (w : World) : Calls Tryz.prog 166 #[.slice none 0 0, f] w (Same w (.bool false)) := by
  go_enter Tryz.func166, Tryz.ntmps166
  go_wp2_with fail
  refine (ixTap_nil _ _).mono ?_
  rintro e w1 ⟨rfl, rfl⟩
  go_wp2
  go_ret
  exact ⟨rfl, rfl⟩
theorem allTap_nil (fn : Fn) (fs cs : Array Value) (w : World) : Calls Tryz.prog 115 #[.slice none 0 0, .func fn fs cs] w (Gives w (.bool true)) := by
  have hb0 : Below w.heap.size w (w.alloc (.cells #[.func fn fs cs] 219)) := (Below.refl _ _).alloc (Nat.le_refl _) _
  go_enter Tryz.func115, Tryz.ntmps115
  go_wp2_with fail
  refine (coTap_nil _ _).mono ?_
  rintro e w1 ⟨rfl, rfl⟩
  go_wp2
  go_ret
  exact ⟨rfl, hb0⟩
theorem price_val (w : World) (x : Int) : CallsVal Tryz.prog (.func (.func 162) #[] #[]) #[.int .i64 x] w (Gives w (.bool (inB x 0 10000))) := by
  refine ⟨162, #[.int .i64 x], by kernel_rfl, ?_⟩
  go_enter Tryz.func162, Tryz.ntmps162
  go_wp2_with fail
  refine (withinF_same _ _ _ _).mono ?_
  rintro e w1 ⟨rfl, rfl⟩
  go_wp2
  go_ret
  exact ⟨rfl, Below.refl _ _⟩
theorem count_val (w : World) (x : Int) : CallsVal Tryz.prog (.func (.func 110) #[] #[]) #[.int .i64 x] w (Gives w (.bool (inB x 0 50))) := by
  refine ⟨110, #[.int .i64 x], by kernel_rfl, ?_⟩
  go_enter Tryz.func110, Tryz.ntmps110
  go_wp2_with fail
  refine (withinF_same _ _ _ _).mono ?_
  rintro e w1 ⟨rfl, rfl⟩
  go_wp2
  go_ret
  exact ⟨rfl, Below.refl _ _⟩
theorem prices_val (P Q : Nat) (u a b c : Value) (x : Int) (w : World) (hP : w.heap[P]? = some (.cells #[.int .i64 1, a, b, c, .int .i64 0] 88 (0, 0))) (hQ : w.heap[Q]? = some (.cells #[.func (.func 162) #[] #[]] 103 (0, 0))) (hu : NumsAt .i64 w u [x]) (hx : inB x 0 10000 = true) :
    Calls Tryz.prog 163 #[u, .pointer (some ⟨P, 0, none⟩), .pointer (some ⟨Q, 0, none⟩)] w (Gives w (.bool true)) := by
  have hc := all_fints (.func 162) #[] #[] (fun x => inB x 0 10000) u [x] w hu (fun k y w' _ _ => price_val w' y)
  have e : ([x].all fun x => inB x 0 10000) = true := by simp [hx]
  rw [e] at hc
  have Hc := Lib.hid hc
  obtain ⟨A, k, rfl, _, _⟩ := hu.form
  have q0 := box_cells hP 0
  have q1 := box_cells hQ 0
  simp only [List.getElem?_toArray, List.getElem?_cons_zero] at q0 q1
  clear hc hu hP hQ
  simp only [List.length_cons, List.length_nil, Nat.zero_add] at Hc ⊢
  go_enter Tryz.func163, Tryz.ntmps163
  go_wp2_with fail
  refine Hc.out.mono ?_
  rintro e w1 ⟨rfl, hb⟩
  go_wp2
  go_ret
  exact ⟨rfl, hb⟩
set_option maxRecDepth 100000 in
set_option maxHeartbeats 3200000 in
theorem CheckTariff_ok (a b c : Value) (x y z : Int) (w : World) (ha : NumsAt .i64 w a [x]) (hb : NumsAt .i64 w b [y]) (hc : NumsAt .i64 w c [z]) (hx : inB x 0 10000 = true) (hy : inB y 0 10000 = true) (hz : inB z 0 10000 = true) :
    Calls Tryz.prog 109 #[.agg #[.int .i64 1, a, b, c, .int .i64 0]] w (Gives w (.int .i64 0)) := by
  have Ha := Lib.hid ha
  have Hb := Lib.hid hb
  have Hc := Lib.hid hc
  clear ha hb hc
  go_enter Tryz.func109, Tryz.ntmps109
  go_upto_region 3 with (fail)
  refine wp_name (fun V => Below w.heap.size w V ∧ V.heap[w.heap.size]? = some (.cells #[.int .i64 1, a, b, c, .int .i64 0] 88 (0, 0)) ∧ V.heap[w.heap.size + 1]? = some (.cells #[.func (.func 162) #[] #[]] 103 (0, 0))) ⟨two_belowT w _ _, (Below.heap_alloc _ _ _ (by simp)).trans (heap_alloc_new w _), heap_alloc2_new w _ _⟩ (fun V hV => ?_)
  obtain ⟨hbV, g1, g2⟩ := hV
  obtain ⟨P, hP⟩ : ∃ P, w.heap.size = P := ⟨_, rfl⟩
  obtain ⟨Q, hQ⟩ : ∃ Q, P + 1 = Q := ⟨_, rfl⟩
  rw [hP] at g1 g2 ⊢
  rw [hQ] at g2 ⊢
  have HbV := Lib.hid hbV
  have G1 := Lib.hid g1
  have G2 := Lib.hid g2
  have q := box_cells g1
  have q0 := q 0
  have q1 := q 1
  have q2 := q 2
  have q3 := q 3
  have q4 := q 4
  simp only [List.getElem?_toArray, List.getElem?_cons_zero, List.getElem?_cons_succ] at q0 q1 q2 q3 q4
  clear hbV g1 g2 q hP hQ
  have e1 : inB 1 1 4 = true := by decide
  have e2 : inB 0 0 1440 = true := by decide
  go_wp2_with fail
  refine (Same.to e1 (withinF_same _ _ _ _)).mono ?_
  rintro e w1 ⟨rfl, rfl⟩
  go_wp2_with fail
  refine (Same.to e2 (withinF_same _ _ _ _)).mono ?_
  rintro e w1 ⟨rfl, rfl⟩
  go_wp2_with fail
  refine (prices_val P Q a a b c x _ G1.out G2.out (Ha.out.below HbV.out) hx).mono ?_
  rintro e w2 ⟨rfl, hb2⟩
  have H2 := Lib.hid (HbV.out.trans (hb2.mono HbV.out.size))
  have G12 := Lib.hid ((hb2.block _ (Array.getElem?_eq_some_iff.1 G1.out).1).trans G1.out)
  have G22 := Lib.hid ((hb2.block _ (Array.getElem?_eq_some_iff.1 G2.out).1).trans G2.out)
  replace q0 := cell_below hb2 q0
  replace q2 := cell_below hb2 q2
  replace q3 := cell_below hb2 q3
  clear hb2 q1 q4
  go_wp2_with fail
  refine (prices_val P Q b a b c y _ G12.out G22.out (Hb.out.below H2.out) hy).mono ?_
  rintro e w3 ⟨rfl, hb3⟩
  have H3 := Lib.hid (H2.out.trans (hb3.mono H2.out.size))
  have G13 := Lib.hid ((hb3.block _ (Array.getElem?_eq_some_iff.1 G12.out).1).trans G12.out)
  have G23 := Lib.hid ((hb3.block _ (Array.getElem?_eq_some_iff.1 G22.out).1).trans G22.out)
  replace q0 := cell_below hb3 q0
  replace q3 := cell_below hb3 q3
  clear hb3 q2
  go_wp2_with fail
  refine (prices_val P Q c a b c z _ G13.out G23.out (Hc.out.below H3.out) hz).mono ?_
  rintro e w4 ⟨rfl, hb4⟩
  go_wp2
  go_ret
  exact ⟨rfl, H3.out.trans (hb4.mono H3.out.size)⟩
end Go.Proofs.YtckgapeednokjaaGreat
