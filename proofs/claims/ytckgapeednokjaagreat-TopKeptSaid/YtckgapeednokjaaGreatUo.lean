import Derived.Test.YtckgapeednokjaaGreatUn
import Derived.Shelf.SlSortCmp.WholeK
import Derived.Ground.SlsfProg
import Derived.Laws.StructEq
set_option linter.unusedVariables false
set_option linter.unusedSimpArgs false
namespace Go.Proofs.YtckgapeednokjaaGreat
open Go Go.Proofs Go.RowKit

section
open Go.Shelf
def Tryz.sortRec_ren : Go.Shelf.Ren := ⟨fun | 6 => 72 | 15 => 79 | 14 => 123 | 28 => 133 | 29 => 134 | 20 => 178 | 21 => 179 | 22 => 180 | 23 => 181 | 24 => 182 | 25 => 183 | 26 => 184 | 27 => 185 | 46 => 217 | 47 => 187 | 48 => 188 | 49 => 218 | 50 => 219 | 57 => 240 | n => n, fun | 22 => 37 | 24 => 89 | 25 => 180 | 3 => 3 | 39 => 32 | 0 => 0 | 53 => 241 | 55 => 23 | 4 => 4 | 46 => 234 | 45 => 233 | 50 => 238 | 5 => 5 | 9 => 9 | 66 => 268 | 70 => 272 | 76 => 293 | 77 => 294 | n => n, fun | n => n⟩
theorem Tryz.sortRec : Go.Proofs.SlLaysF0.n6 Tryz.prog Tryz.sortRec_ren := {
  mixed := by kernel_rfl,
  f6 := ⟨Tryz.f72.name, by decide, Tryz.func72.trans (congrArg some (by kernel_rfl))⟩,
  f14 := ⟨Tryz.f123.name, by decide, Tryz.func123.trans (congrArg some (by kernel_rfl))⟩,
  f15 := Tryz.func79.trans (congrArg some (by kernel_rfl)),
  f20 := ⟨Tryz.f178.name, by decide, Tryz.func178.trans (congrArg some (by kernel_rfl))⟩,
  f21 := ⟨Tryz.f179.name, by decide, Tryz.func179.trans (congrArg some (by kernel_rfl))⟩,
  f22 := ⟨Tryz.f180.name, by decide, Tryz.func180.trans (congrArg some (by kernel_rfl))⟩,
  f23 := ⟨Tryz.f181.name, by decide, Tryz.func181.trans (congrArg some (by kernel_rfl))⟩,
  f24 := ⟨Tryz.f182.name, by decide, Tryz.func182.trans (congrArg some (by kernel_rfl))⟩,
  f25 := ⟨Tryz.f183.name, by decide, Tryz.func183.trans (congrArg some (by kernel_rfl))⟩,
  f26 := ⟨Tryz.f184.name, by decide, Tryz.func184.trans (congrArg some (by kernel_rfl))⟩,
  f27 := ⟨Tryz.f185.name, by decide, Tryz.func185.trans (congrArg some (by kernel_rfl))⟩,
  f28 := Tryz.func133.trans (congrArg some (by kernel_rfl)),
  f29 := Tryz.func134.trans (congrArg some (by kernel_rfl)),
  f46 := ⟨Tryz.f217.name, by decide, Tryz.func217.trans (congrArg some (by kernel_rfl))⟩,
  f47 := Tryz.func187.trans (congrArg some (by kernel_rfl)),
  f48 := Tryz.func188.trans (congrArg some (by kernel_rfl)),
  f49 := ⟨Tryz.f218.name, by decide, Tryz.func218.trans (congrArg some (by kernel_rfl))⟩,
  f50 := ⟨Tryz.f219.name, by decide, Tryz.func219.trans (congrArg some (by kernel_rfl))⟩,
  f57 := ⟨Tryz.f240.name, by decide, Tryz.func240.trans (congrArg some (by kernel_rfl))⟩,
  t0 := Tryz.underlying0,
  a0 := Tryz.isAgg0,
  z0 := Tryz.sizeOf0,
  v0 := Tryz.zeroValue0,
  t3 := Tryz.underlying3,
  a3 := Tryz.isAgg3,
  z3 := Tryz.sizeOf3,
  v3 := Tryz.zeroValue3,
  t4 := Tryz.underlying4,
  a4 := Tryz.isAgg4,
  z4 := Tryz.sizeOf4,
  v4 := Tryz.zeroValue4,
  t5 := Tryz.underlying5,
  a5 := Tryz.isAgg5,
  z5 := Tryz.sizeOf5,
  v5 := Tryz.zeroValue5,
  t9 := Tryz.underlying9,
  a9 := Tryz.isAgg9,
  z9 := Tryz.sizeOf9,
  v9 := Tryz.zeroValue9,
  t22 := Tryz.underlying37,
  a22 := Tryz.isAgg37,
  z22 := Tryz.sizeOf37,
  v22 := Tryz.zeroValue37,
  t25 := Tryz.underlying180,
  a25 := Tryz.isAgg180,
  z25 := Tryz.sizeOf180,
  v25 := Tryz.zeroValue180,
  t39 := Tryz.underlying32,
  a39 := Tryz.isAgg32,
  z39 := Tryz.sizeOf32,
  v39 := Tryz.zeroValue32,
  t45 := Tryz.underlying233,
  a45 := Tryz.isAgg233,
  z45 := Tryz.sizeOf233,
  v45 := Tryz.zeroValue233,
  t46 := Tryz.underlying234,
  a46 := Tryz.isAgg234,
  z46 := Tryz.sizeOf234,
  v46 := Tryz.zeroValue234,
  t50 := Tryz.underlying238,
  a50 := Tryz.isAgg238,
  z50 := Tryz.sizeOf238,
  v50 := Tryz.zeroValue238,
  t53 := Tryz.underlying241,
  a53 := Tryz.isAgg241,
  z53 := Tryz.sizeOf241,
  v53 := Tryz.zeroValue241,
  t55 := Tryz.underlying23,
  a55 := Tryz.isAgg23,
  z55 := Tryz.sizeOf23,
  v55 := Tryz.zeroValue23,
  t66 := Tryz.underlying268,
  a66 := Tryz.isAgg268,
  z66 := Tryz.sizeOf268,
  v66 := Tryz.zeroValue268,
  t70 := Tryz.underlying272,
  a70 := Tryz.isAgg272,
  z70 := Tryz.sizeOf272,
  v70 := Tryz.zeroValue272,
  t76 := Tryz.underlying293,
  a76 := Tryz.isAgg293,
  z76 := Tryz.sizeOf293,
  v76 := Tryz.zeroValue293,
  t77 := Tryz.underlying294,
  a77 := Tryz.isAgg294,
  z77 := Tryz.sizeOf294,
  v77 := Tryz.zeroValue294 }
end
/-! ### The order of records -/
abbrev Rok := {r : Rc // RcOk r}
instance : Inhabited Rok := ⟨⟨⟨0, 1, 0, 0, 0, 0⟩, ⟨by simp, by simp, by simp, by simp⟩⟩⟩
def encR (x : Rok) : List Value := recC x.1
def cmpR (x y : Rok) : Int := orI (x.1.mac - y.1.mac) (x.1.seq - y.1.seq)
theorem cmpR_calls (x y : Rok) (W : World) : Calls Tryz.prog 73 #[.agg (encR x).toArray, .agg (encR y).toArray] W fun e w' => e = .returned (.int .i64 (cmpR x y)) ∧ ∃ q os', w' = Go.Sort.grow (W.drewN q) os' := by
  obtain ⟨x, hx⟩ := x
  obtain ⟨y, hy⟩ := y
  have h1 := hx.mac
  have h2 := hx.seq
  have h3 := hy.mac
  have h4 := hy.seq
  simp only [encR, cmpR, recC]
  have hor := fun (v : Value) (W : World) (hv : NumsAt .i64 W v [x.mac - y.mac, x.seq - y.seq]) => Or_same (x.mac - y.mac) (x.seq - y.seq) v W hv
  obtain ⟨r, hr⟩ : ∃ r, orI (x.mac - y.mac) (x.seq - y.seq) = r := ⟨_, rfl⟩
  rw [hr] at hor ⊢
  have Hor := Lib.hid hor
  clear hr hor hx hy
  go_enter Tryz.func73, Tryz.ntmps73
  go_wp2_with fail
  refine (Hor.out _ _ (nums_pair (by simp [go_sem]) (by simp [go_sem]))).mono ?_
  rintro e w1 ⟨rfl, rfl⟩
  go_wp2
  go_ret
  exact ⟨rfl, 0, _, by rw [Go.Sort.alloc_eq_grow, Go.Sort.alloc_eq_grow, Go.Sort.alloc_eq_grow, Go.Sort.grow_grow, Go.Sort.grow_grow]; rfl⟩
theorem ltR (x y : Rok) : ltOf cmpR x y = kltB x.1 y.1 := by
  unfold ltOf cmpR orI kltB
  rw [Bool.eq_iff_iff]
  simp only [decide_eq_true_eq, Bool.or_eq_true, Bool.and_eq_true]
  split <;> omega
theorem swoR : Go.Sort.SWO (ltOf cmpR) where
  irrefl x := by rw [ltR]; simp [kltB]
  trans x y z h1 h2 := by
    rw [ltR] at *
    simp only [kltB, decide_eq_true_eq, Bool.or_eq_true, Bool.and_eq_true] at *
    omega
  ntrans x y z h1 h2 := by
    rw [ltR] at *
    simp only [kltB, Bool.or_eq_false_iff, Bool.and_eq_false_iff, decide_eq_false_iff_not] at *
    omega
theorem klt_of_rlt {x y : Rc} (h : Rlt x y) : kltB x y = true := by
  simp only [kltB, Bool.or_eq_true, Bool.and_eq_true, decide_eq_true_eq]
  rcases h with h | ⟨h1, h2, _⟩
  · exact .inl h
  · exact .inr ⟨h1, h2⟩
theorem perm_sorted {α : Type} (lt : α → α → Bool) : ∀ {l L : List α}, L.Perm l → L.Pairwise (fun a b => lt b a = false) → l.Pairwise (fun a b => lt a b = true) → L = l
  | [], L, hp, _, _ => List.Perm.eq_nil hp
  | x :: l, [], hp, _, _ => by have := hp.length_eq; simp at this
  | x :: l, y :: L, hp, h1, h2 => by
    have hy := hp.mem_iff.1 (List.mem_cons_self (a := y) (l := L))
    have hx := hp.mem_iff.2 (List.mem_cons_self (a := x) (l := l))
    obtain ⟨h1a, h1b⟩ := List.pairwise_cons.1 h1
    obtain ⟨h2a, h2b⟩ := List.pairwise_cons.1 h2
    have e : y = x := by
      rcases List.mem_cons.1 hy with e | hy
      · exact e
      · rcases List.mem_cons.1 hx with e | hx
        · exact e.symm
        · have q1 := h2a y hy
          have q2 := h1a x hx
          rw [q1] at q2
          cases q2
    subst e
    rw [perm_sorted lt (List.Perm.cons_inv hp) h1b h2b]
theorem sortR_grown {α : Type} [Inhabited α] (enc : α → List Value) (n : Nat) (w : World) (g m : Nat) (d : Array α) (os : Array Obj) : w.grownBy (sortWorldK enc n w g 0 m d os) (some g) := by
  refine ⟨rfl, rfl, rfl, ?_, fun k hk hne => ?_⟩
  · simp [sortWorldK, Go.Sort.grow, Go.Sort.putRowK, Go.Sort.putRow, Go.Sort.mapBlock, Go.Sort.ahead]
  · have hne' : g ≠ k := fun e => hne (by rw [e])
    show ((w.heap.modify g _) ++ os)[k]? = _
    rw [Array.getElem?_append_left (by rw [Array.size_modify]; exact hk), Array.getElem?_modify, if_neg hne']
set_option maxHeartbeats 1000000 in
theorem sortR_any (g c base : Nat) (l : List Rok) (w : World) (hne : l ≠ []) (hlen : l.length ≤ 1000000) (hpw : (l.map (·.1)).Pairwise Rlt) (ho : w.ownsRow base 89 6 (.slice (some ⟨g, 0, none⟩) l.length c) l.length (l.flatMap encR)) :
    Calls Tryz.prog 72 #[.slice (some ⟨g, 0, none⟩) l.length c, .func (.func 73) #[] #[]] w fun e w' => e = .returned (.tuple #[]) ∧ w.grownBy w' (some g) ∧ ∀ (k j : Nat) (r : Rok) (u : Value), l[k]? = some r → (encR r)[j]? = some u → w'.cell? ⟨g, k * 6 + j, none⟩ = some u := by
  have hp0 : 0 < l.length := List.length_pos_iff.2 hne
  have eg : ∀ args w, (callFunc 73 args).run Tryz.prog w = .ok (.enter 73 args) w := enters_of Tryz.func73 (by kernel_rfl) rfl
  have hg : g < w.heap.size := (ho.lt g rfl).2
  have hsz : l.toArray.size = l.length := by simp
  have hH : Go.Sort.HoldsK encR 6 w g 0 l.toArray := by
    intro j hj
    rw [Go.Sort.size_flatK, hsz] at hj
    have h1 := ho.cellAt j (by omega)
    refine ⟨?_, by simpa using ho.frozenAt j⟩
    rw [Nat.zero_add, h1, Go.Sort.get_flatK _ _ _ _ (by rw [hsz]; exact hj)]
    have hj4 : j / 6 < l.length := by omega
    have h2 := flat_get (f := encR) (n := 6) (fun _ => rfl) (l := l) (k := j / 6) (j := j % 6) (List.getElem?_eq_getElem hj4) (Nat.mod_lt _ (by omega))
    rw [show j / 6 * 6 + j % 6 = j by omega] at h2
    rw [h2, getElem!_pos l.toArray (j / 6) (by rw [hsz]; exact hj4)]
    have hl : j % 6 < (encR l[j / 6]).length := Nat.mod_lt _ (by omega)
    rw [List.getElem?_eq_getElem hl]
    simp [hl]
  have hcmp : CmpLays Tryz.prog 73 #[] encR 6 cmpR g 0 l.toArray.size w := fun m os dk _ x y => cmpR_calls x y _
  have hcon := AnyQ.slices_SortFunc Tryz.sortRec 6 Tryz.isAgg89 Tryz.sizeOf89 encR (fun _ => rfl) (fun x v hv => by simp [encR, recC] at hv; rcases hv with rfl | rfl | rfl | rfl | rfl | rfl <;> rfl) cmpR swoR 73 #[] g 0 c l.toArray w eg hcmp hH hg (by rw [hsz]; omega)
  rw [hsz] at hcon
  change Calls Tryz.prog 72 _ _ _ at hcon
  refine hcon.mono ?_
  rintro e w' ⟨rfl, d', m, os, ⟨hs, _, hpm⟩, hsort, rfl⟩
  rw [hsz] at hs
  have hp' : d'.toList.Perm l := by
    rw [Array.extract_eq_self_of_le (by omega), Array.extract_eq_self_of_le (by rw [hsz]; omega)] at hpm
    simpa using hpm
  have hsame : d'.toList = l := by
    refine perm_sorted (fun a b : Rok => kltB a.1 b.1) hp' ?_ ?_
    · rw [List.pairwise_iff_getElem]
      intro i j hi hj hij
      simp only [Array.length_toList] at hi hj
      have hlt := hsort i j (by omega) hij (by omega)
      rw [ltR, getElem!_pos d' i hi, getElem!_pos d' j hj] at hlt
      simpa using hlt
    · rw [List.pairwise_map] at hpw
      exact hpw.imp fun h => klt_of_rlt h
  refine ⟨rfl, sortR_grown encR 6 w g m d' os, fun k j r u hk hu => ?_⟩
  rw [← hsame, Array.getElem?_toList] at hk
  have hkd : k < d'.size := by
    rcases Nat.lt_or_ge k d'.size with h | h
    · exact h
    · rw [Array.getElem?_eq_none h] at hk; cases hk
  rw [Array.getElem?_eq_getElem hkd, Option.some.injEq] at hk
  subst hk
  have hj : j < 6 := (List.getElem?_eq_some_iff.1 hu).1
  have hw : Go.Sort.HoldsK encR 6 (sortWorldK encR 6 w g 0 m d' os) g 0 d' := SWK.holds ⟨m, os, rfl⟩ hg hH (by rw [hsz]; exact hs)
  obtain ⟨hc, hf⟩ := hw (k * 6 + j) (by rw [Go.Sort.size_flatK]; omega)
  rw [Nat.zero_add, Go.Sort.get_flatK _ _ _ _ (by omega), show (k * 6 + j) / 6 = k by omega, show (k * 6 + j) % 6 = j by omega, getElem!_pos d' k hkd] at hc
  simp only [id] at hc
  rw [hc, ← hu]
  have hl : j < (encR d'[k]).length := hj
  rw [List.getElem?_eq_getElem hl]
  simp [hl]
theorem ok_list : ∀ (l : List Rc), (∀ r ∈ l, RcOk r) → ∃ L : List Rok, L.map (·.1) = l
  | [], _ => ⟨[], rfl⟩
  | x :: l, h => by
    obtain ⟨L, hL⟩ := ok_list l (fun r hr => h r (by simp [hr]))
    exact ⟨⟨x, h x (by simp)⟩ :: L, by simp [hL]⟩
theorem flat_ok (L : List Rok) : L.flatMap encR = recCells (L.map (·.1)) := by
  unfold recCells
  rw [List.flatMap_map]
  rfl
/-- A row in order is sorted. -/
theorem sortRec_any (g c base : Nat) (l : List Rc) (w : World) (hne : l ≠ []) (hlen : l.length ≤ 1000000) (hok : ∀ r ∈ l, RcOk r) (hpw : l.Pairwise Rlt) (hc : l.length ≤ c ∧ c ≤ maxLen) (ho : w.ownsRow base 89 6 (.slice (some ⟨g, 0, none⟩) l.length c) l.length (recCells l)) :
    Calls Tryz.prog 72 #[.slice (some ⟨g, 0, none⟩) l.length c, .func (.func 73) #[] #[]] w fun e w' => e = .returned (.tuple #[]) ∧ w.grownBy w' (some g) ∧ RecsAt w' (.slice (some ⟨g, 0, none⟩) l.length c) l := by
  obtain ⟨L, rfl⟩ := ok_list l hok
  rw [List.length_map] at *
  rw [← flat_ok] at ho
  refine (sortR_any g c base L w (fun e => hne (by rw [e]; rfl)) hlen hpw ho).mono ?_
  rintro e w' ⟨rfl, hg, hcells⟩
  refine ⟨rfl, hg, _, c, by rw [List.length_map], by rw [List.length_map]; exact hc.1, hc.2, fun hp => ⟨g, 0, rfl, fun k r hk => ?_⟩⟩
  rw [List.getElem?_map] at hk
  obtain ⟨r', hr', rfl⟩ := Option.map_eq_some_iff.1 hk
  have key := fun j u hu => hcells k j r' u hr' hu
  rw [Nat.zero_add]
  exact ⟨key 0 _ rfl, key 1 _ rfl, key 2 _ rfl, key 3 _ rfl, key 4 _ rfl, key 5 _ rfl⟩
/-! nothing to sort -/
set_option maxRecDepth 100000 in
theorem ins_nil (v f : Value) (w : World) : Calls Tryz.prog 178 #[v, .int .i64 0, .int .i64 0, f] w (Same w (.tuple #[])) := by
  go_enter Tryz.func178, Tryz.ntmps178
  go_wp2
  go_loop [8] (fun i => i = .int .i64 1) (fun i => 0)
  case atStart => rfl
  case round =>
    subst hrel
    go_wp2
    (try simp only [Exit.inBlock, Exit.then]); first | refine bodyPost_end (results_none rfl _ _ _) rfl ?_ | refine bodyPost_ret (results_none rfl _ _ _) rfl ?_
    exact ⟨rfl, rfl⟩
set_option maxRecDepth 100000 in
theorem pdq_nil (v f : Value) (n : Int) (w : World) : Calls Tryz.prog 123 #[v, .int .i64 0, .int .i64 0, .int .i64 n, f] w (Same w (.tuple #[])) := by
  go_enter Tryz.func123, Tryz.ntmps123
  go_wp2
  go_loop [1, 2] (fun i j => i = .int .i64 0 ∧ j = .int .i64 0) (fun i j => 0)
  case atStart => exact ⟨rfl, rfl⟩
  case round =>
    obtain ⟨rfl, rfl⟩ := hrel
    go_wp2_with (go_at_call 178; refine (ins_nil _ _ _).mono ?_; rintro e w1 ⟨rfl, rfl⟩)
    (try simp only [Exit.inBlock, Exit.then]); first | refine bodyPost_end (results_none rfl _ _ _) rfl ?_ | refine bodyPost_ret (results_none rfl _ _ _) rfl ?_
    exact ⟨rfl, rfl⟩
set_option maxRecDepth 100000 in
theorem len64_zero (w : World) : Calls Tryz.prog 134 #[.int .u64 0] w (Same w (.int .i64 0)) := by
  go_enter Tryz.func134, Tryz.ntmps134
  go_wp2
  go_ret
  have e : Lib.len8 0 = 0 := by decide +kernel
  refine ⟨?_, rfl⟩
  have e2 : wrap64 0 = 0 := by decide +kernel
  simp only [e, e2]
  rfl
set_option maxRecDepth 100000 in
theorem len_zero (w : World) : Calls Tryz.prog 79 #[.int .u64 0] w (Same w (.int .i64 0)) := by
  go_enter Tryz.func79, Tryz.ntmps79
  go_wp2_with (go_at_call 134; refine (len64_zero _).mono ?_; rintro e w1 ⟨rfl, rfl⟩)
  go_ret
  exact ⟨rfl, rfl⟩
set_option maxRecDepth 100000 in
theorem sort_nil (A : Option Addr) (c : Nat) (f : Value) (w : World) : Calls Tryz.prog 72 #[.slice A 0 c, f] w (Same w (.tuple #[])) := by
  go_enter Tryz.func72, Tryz.ntmps72
  go_wp2_with (first
    | (go_at_call 79; refine (len_zero _).mono ?_; rintro e w1 ⟨rfl, rfl⟩)
    | (go_at_call 123; refine (pdq_nil _ _ _ _).mono ?_; rintro e w1 ⟨rfl, rfl⟩))
  (try simp only [Exit.inBlock, Exit.then]); first | refine bodyPost_end (results_none rfl _ _ _) rfl ?_ | refine bodyPost_ret (results_none rfl _ _ _) rfl ?_
  exact ⟨rfl, rfl⟩

end Go.Proofs.YtckgapeednokjaaGreat
