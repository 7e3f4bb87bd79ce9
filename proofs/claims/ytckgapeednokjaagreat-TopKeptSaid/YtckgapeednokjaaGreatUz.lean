import Derived.Test.YtckgapeednokjaaGreatUy
import Derived.Test.YtckgapeednokjaaGreatK6
set_option linter.unusedVariables false
set_option linter.unusedSimpArgs false
namespace Go.Proofs.YtckgapeednokjaaGreat
open Go Go.Proofs Go.RowKit

/-! ### fare.Missing where nothing is told; tells -/
def GivesLen (n : Nat) (w : World) (e : Ending) (w' : World) : Prop := ∃ (A : Option Addr) (c : Nat), e = .returned (.slice A n c) ∧ Below w.heap.size w w'
theorem miss_zero (m : Int) (K : Nat) (w : World) : Calls Tryz.prog 69 #[.agg #[.slice none 0 0, .slice none 0 0, .slice none 0 0, .slice none 0 0, .slice none 0 0, .slice none 0 0, .slice none 0 0, .slice none 0 0, .slice none 0 0, .slice none 0 0, .map (some K)], .int .i64 m, .int .i64 0] w (GivesLen 0 w) := by
  have hb0 : Below w.heap.size w (w.alloc (.cells #[.slice none 0 0, .slice none 0 0, .slice none 0 0, .slice none 0 0, .slice none 0 0, .slice none 0 0, .slice none 0 0, .slice none 0 0, .slice none 0 0, .slice none 0 0, .map (some K)] 169)) := (Below.refl _ _).alloc (Nat.le_refl _) _
  go_enter Tryz.func69, Tryz.ntmps69
  go_wp2
  go_loop [6, 11] (fun s i => s = .slice none 0 0 ∧ i = .int .i64 0) (fun s i => 0)
  case atStart => exact ⟨rfl, rfl⟩
  case round =>
    obtain ⟨rfl, rfl⟩ := hrel
    go_wp2
    go_ret
    exact ⟨none, 0, rfl, hb0⟩
set_option maxRecDepth 100000 in
theorem miss_one (K : Nat) (w : World) (hM : MapN 222 w K 0 (fun _ => none)) : Calls Tryz.prog 69 #[.agg #[.slice none 0 0, .slice none 0 0, .slice none 0 0, .slice none 0 0, .slice none 0 0, .slice none 0 0, .slice none 0 0, .slice none 0 0, .slice none 0 0, .slice none 0 0, .map (some K)], .int .i64 0, .int .i64 1] w (GivesLen 1 w) := by
  obtain ⟨i0, hi0, hz0, hz1, hz2⟩ := info_parts infoI
  obtain ⟨ky, hky⟩ := num_key00
  have HM := Lib.hid hM
  have Hky := Lib.hid hky
  clear hM hky
  go_enter Tryz.func69, Tryz.ntmps69
  go_upto_region 1 with (fail)
  refine wp_name (fun V => Below w.heap.size w V ∧ V.heap[w.heap.size]? = some (.cells #[.slice none 0 0, .slice none 0 0, .slice none 0 0, .slice none 0 0, .slice none 0 0, .slice none 0 0, .slice none 0 0, .slice none 0 0, .slice none 0 0, .slice none 0 0, .map (some K)] 169 (0, 0))) ⟨(Below.refl _ _).alloc (Nat.le_refl _) _, heap_alloc_new w _⟩ (fun V hV => ?_)
  obtain ⟨hbV, g1⟩ := hV
  have HMV := Lib.hid (HM.out.below hbV)
  have q10 := box_cells g1 10
  simp only [List.getElem?_toArray, List.getElem?_cons_zero, List.getElem?_cons_succ] at q10
  have hsV := hbV.size
  go_wp2
  go_loopw [6, 11] (fun s i wr => (s = .slice none 0 0 ∧ i = .int .i64 0 ∧ wr = V) ∨ (i = .int .i64 1 ∧ ∃ A c, s = .slice A 1 c ∧ Below w.heap.size w wr)) (fun s i wr => 1 - (intOf i).toNat)
  case atStart => exact .inl ⟨rfl, rfl, rfl⟩
  case round =>
    rcases hrel with ⟨rfl, rfl, rfl⟩ | ⟨rfl, A, c, rfl, hb⟩
    · go_upto_region 5 with (at_lookup; go_loud (refine wpList_look_none num_law rfl (.tmp 16) (.tmp 19) rfl Tryz.underlying167 (tap_zero _) (.agg #[.int .i64 0, .int .i64 0]) rfl rfl HMV.out Hky.out rfl ?_))
      refine wp_name (fun V5 => Below w.heap.size w V5) (hbV.alloc hbV.size _) (fun V5 hb5 => ?_)
      have hs5 := hb5.size
      clear q10 HMV
      go_wp2_with (at_builtin; go_loud (refine wpList_append_src _ rfl (.tmp 25) (.tmp 27) 29 rfl w.heap.size 3 i0 _ 1 8 Tryz.underlying29 hi0 hz0 hz1 hz2 rfl (by omega) _ 0 [] rfl (World.ownsRow_nil _ _ _ _) (some ⟨V5.heap.size, 0, none⟩) 1 1 [.int .i64 0] rfl (src_new V5 [.int .i64 0] 3 1 1 rfl) (by simp [Value.oneCell']) (by simp [maxLen]) (by omega) (by simp; omega) ?_); intro v2 w2 hown2 hg2 _; have hb2 := below_grown (hb5.alloc hs5 (.cells #[.int .i64 0] 3)) hg2 (by simp; omega) (World.ownsRow_nil _ w.heap.size 3 1) (Nat.le_refl _); obtain ⟨A2, c2, rfl⟩ := own_form hown2; have Hb2 := Lib.hid hb2; clear hown2 hg2 hb2)
      go_roundw
      case rel => exact .inr ⟨by go_num, A2, c2, rfl, Hb2.out⟩
      case measure => simp [intOf]
    · go_wp2
      go_ret
      exact ⟨A, c, rfl, hb⟩
def GivesMiss (w : World) (e : Ending) (w' : World) : Prop := ∃ (A : Option Addr) (c : Nat) (vs : List Value), e = .returned (.tuple #[.slice A 4 c, .int .i64 0]) ∧ w'.ownsRow w.heap.size 29 1 (.slice A 4 c) 4 vs ∧ (∃ A1 c1, vs[0]? = some (.slice A1 1 c1)) ∧ Below w.heap.size w w'
set_option maxRecDepth 100000 in
set_option maxHeartbeats 6400000 in
theorem Missing_nil (a b c u : Value) (x y z : Int) (w : World) (ha : NumsAt .i64 w a [x]) (hb : NumsAt .i64 w b [y]) (hc : NumsAt .i64 w c [z]) (hx : inB x 0 10000 = true) (hy : inB y 0 10000 = true) (hz : inB z 0 10000 = true) (hu : NumsAt .i64 w u [1, 0, 0, 0]) :
    Calls Tryz.prog 29 #[.agg #[.int .i64 1, a, b, c, .int .i64 0], .slice none 0 0, u] w (GivesMiss w) := by
  obtain ⟨i0, hi0, hz0, hz1, hz2⟩ := info_parts infoR
  have Hread := Lib.hid (fun (w' : World) (h : Below w.heap.size w w') => read_nil a b c u x y z [1, 0, 0, 0] w' (ha.below h) (hb.below h) (hc.below h) hx hy hz (hu.below h) rfl (by decide))
  obtain ⟨A, k, rfl, _, _⟩ := hu.form
  obtain ⟨bu, ou, v0, e, _, _, _⟩ := hu.at_ (k := 0) (by simp)
  subst e
  have Hu := Lib.hid hu
  simp only [List.length_cons, List.length_nil, Nat.zero_add, Nat.reduceAdd] at Hread Hu ⊢
  clear ha hb hc hx hy hz hu
  go_enter Tryz.func29, Tryz.ntmps29
  go_upto_region 1 with (fail)
  refine wp_name (fun V => Below w.heap.size w V ∧ V.heap[w.heap.size]? = some (.cells #[.int .i64 1, a, b, c, .int .i64 0] 88 (0, 0))) ⟨(Below.refl _ _).alloc (Nat.le_refl _) _, heap_alloc_new w _⟩ (fun V hV => ?_)
  obtain ⟨hbV, g1⟩ := hV
  have q := box_cells g1
  have q0 := q 0
  have q1 := q 1
  have q2 := q 2
  have q3 := q 3
  have q4 := q 4
  simp only [List.getElem?_toArray, List.getElem?_cons_zero, List.getElem?_cons_succ] at q0 q1 q2 q3 q4
  have HbV := Lib.hid hbV
  clear q g1 hbV
  go_wp2_with fail
  refine (Hread.out _ HbV.out).mono ?_
  rintro e w1 ⟨K, rfl, hM, hb1⟩
  have Hb1 := Lib.hid (HbV.out.trans (hb1.mono HbV.out.size))
  have HM1 := Lib.hid hM
  clear q0 q1 q2 q3 q4 hb1 hM
  go_upto_region 2 with (fail)
  refine wp_name (fun V2 => Below w1.heap.size w1 V2 ∧ V2.heap[w1.heap.size]? = some (.cells #[.slice none 0 0, .slice none 0 0, .slice none 0 0, .slice none 0 0, .slice none 0 0, .slice none 0 0, .slice none 0 0, .slice none 0 0, .slice none 0 0, .slice none 0 0, .map (some K)] 169 (0, 0))) ⟨(Below.refl _ _).alloc (Nat.le_refl _) _, heap_alloc_new w1 _⟩ (fun V2 hV2 => ?_)
  obtain ⟨hb2, g2⟩ := hV2
  obtain ⟨TB, hTB⟩ : ∃ TB, w1.heap.size = TB := ⟨_, rfl⟩
  have HM2 := Lib.hid (HM1.out.below hb2)
  have H2 := Lib.hid (Hb1.out.trans (hb2.mono Hb1.out.size))
  rw [hTB] at g2 ⊢
  have hTw : w.heap.size ≤ TB := by rw [← hTB]; exact Hb1.out.size
  have hTs : TB < V2.heap.size := (Array.getElem?_eq_some_iff.1 g2).1
  have G2 := Lib.hid g2
  obtain ⟨B2, hB2⟩ : ∃ B2, V2.heap.size = B2 := ⟨_, rfl⟩
  have HB2 := Lib.hid hB2
  rw [hB2] at hTs
  clear hb2 g2 hTB hB2
  go_wp2
  go_loopw [10, 25] (fun s i wr => ∃ (j : Nat) (A' : Option Addr) (c' : Nat) (vs : List Value), j ≤ 4 ∧ i = .int .i64 (j : Int) ∧ s = .slice A' j c' ∧ Below V2.heap.size V2 wr ∧ wr.ownsRow B2 29 1 (.slice A' j c') j vs ∧ (0 < j → ∃ A1 c1, vs[0]? = some (.slice A1 1 c1))) (fun s i wr => 4 - (intOf i).toNat)
  case atStart => exact ⟨0, none, 0, [], by omega, rfl, rfl, Below.refl _ _, World.ownsRow_nil _ _ _ _, fun h => by omega⟩
  case round =>
    obtain ⟨j, A', c', vs, hj, rfl, rfl, hbr, hown, hfst⟩ := hrel
    obtain ⟨wo, rfl⟩ : ∃ wo : World, wo = wr := ⟨_, rfl⟩
    have Hbr := Lib.hid hbr
    have Hown := Lib.hid hown
    have Hfst := Lib.hid hfst
    have hsr : B2 ≤ wo.heap.size := by rw [← HB2.out]; exact hbr.size
    clear hbr hown hfst
    by_cases hlt : j < 4
    · have hnu := (Hu.out.below (H2.out.trans (Hbr.out.mono H2.out.size)))
      obtain ⟨b3, o3, n, e, hn, n0, _⟩ := hnu.at_ (k := j) (by simp; omega)
      cases e
      have g3 := (Hbr.out.block TB (by rw [HB2.out]; exact hTs)).trans G2.out
      have q := box_cells g3
      have q0 := q 0
      have q1 := q 1
      have q2 := q 2
      have q3 := q 3
      have q4 := q 4
      have q5 := q 5
      have q6 := q 6
      have q7 := q 7
      have q8 := q 8
      have q9 := q 9
      have q10 := q 10
      simp only [List.getElem?_toArray, List.getElem?_cons_zero, List.getElem?_cons_succ] at q0 q1 q2 q3 q4 q5 q6 q7 q8 q9 q10
      have HMr := Lib.hid (HM2.out.below Hbr.out)
      have hcall : Calls Tryz.prog 69 #[.agg #[.slice none 0 0, .slice none 0 0, .slice none 0 0, .slice none 0 0, .slice none 0 0, .slice none 0 0, .slice none 0 0, .slice none 0 0, .slice none 0 0, .slice none 0 0, .map (some K)], .int .i64 (j : Int), .int .i64 n] wo (GivesLen n.toNat wo) := by
        match j, hlt, hn with
        | 0, _, hn => simp at hn; subst hn; exact miss_one K wo HMr.out
        | 1, _, hn => simp at hn; subst hn; exact miss_zero _ K wo
        | 2, _, hn => simp at hn; subst hn; exact miss_zero _ K wo
        | 3, _, hn => simp at hn; subst hn; exact miss_zero _ K wo
      have hn0 : j = 0 → n.toNat = 1 := fun e => by subst e; simp at hn; subst hn; rfl
      have Hcall := Lib.hid hcall
      have Hn0 := Lib.hid hn0
      have i0' : (j : Int) < 4 := by omega
      clear q hcall hn0 hn hnu
      go_wp2_with (first | (at_builtin; go_loud (refine wpList_append_src _ rfl (.tmp 30) (.tmp 35) 45 rfl B2 29 i0 _ 1 24 Tryz.underlying45 hi0 hz0 hz1 hz2 rfl (by omega) _ j vs rfl (Hown5.out.alloc _) (some ⟨w5.heap.size, 0, none⟩) 1 1 [.slice A5 n.toNat c5] rfl (src_new w5 [.slice A5 n.toNat c5] 29 1 1 rfl) (by simp [Value.oneCell']) (by simp [maxLen]; omega) (by omega) (by simp; omega) ?_); intro v6 w6 hown6 hg6 _; have hb6 := below_grown (Hb5.out.alloc Hb5.out.size (.cells #[.slice A5 n.toNat c5] 29)) hg6 (by have := Hb5.out.size; simp; omega) (Hown5.out.alloc _) (by rw [HB2.out]; exact Nat.le_refl _); have Hb6 := Lib.hid hb6; obtain ⟨A6, c6, rfl⟩ := own_form hown6; have Hown6 := Lib.hid hown6; clear hown6 hg6 hb6) | (refine Hcall.out.mono ?_; rintro e w5 ⟨A5, c5, rfl, hb5⟩; have Hb5 := Lib.hid (Hbr.out.trans (hb5.mono Hbr.out.size)); have Hown5 := Lib.hid (own_below Hown.out hb5); have hs5 : B2 ≤ w5.heap.size := Nat.le_trans hsr hb5.size; clear hb5 q0 q1 q2 q3 q4 q5 q6 q7 q8 q9 q10 n0))
      go_roundw
      case rel =>
        refine ⟨j + 1, A6, c6, vs ++ [.slice A5 n.toNat c5], by omega, by go_num, rfl, Hb6.out, Hown6.out, fun _ => ?_⟩
        by_cases h0 : j = 0
        · subst h0
          have hl := Hown5.out.1
          have : vs = [] := List.eq_nil_of_length_eq_zero (by simpa using hl)
          subst this
          exact ⟨A5, c5, by rw [Hn0.out rfl]; rfl⟩
        · obtain ⟨A1, c1, h1⟩ := Hfst.out (by omega)
          exact ⟨A1, c1, by rw [List.getElem?_append_left (List.getElem?_eq_some_iff.1 h1).1]; exact h1⟩
      case measure => simp [intOf]; omega
    · obtain rfl : j = 4 := by omega
      go_wp2
      go_ret2
      exact ⟨A', c', vs, rfl, own_mono Hown.out (by have := H2.out.size; have := HB2.out; omega), Hfst.out (by omega), H2.out.trans (Hbr.out.mono H2.out.size)⟩
theorem lkq_fields : (Tryz.prog.fieldsOf 40).toList.map (fun f => (f.name, f.type, f.offset)) = [("Machine", 3, 0), ("From", 3, 1), ("To", 3, 2), ("Sales", 3, 3), ("Coins", 3, 4)] := by kernel_rfl
theorem lkq_under : Tryz.prog.underlying 40 = some (.struct (Tryz.prog.fieldsOf 40)) := by kernel_rfl
theorem lkq_held : Tryz.prog.stoodInHeld 40 = false := by kernel_rfl
theorem lkq_guard (w : World) (x y : Operand) (xs ys : Array Value) : (eqGuard .eql 40 x y (.agg xs) (.agg ys)).run Tryz.prog w = .ok () w := run_eqGuard_agg w _ _ _ _ _ _ (by kernel_rfl)
theorem lkq_guardN (w : World) (x y : Operand) (xs ys : Array Value) : (eqGuard .neq 40 x y (.agg xs) (.agg ys)).run Tryz.prog w = .ok () w := run_eqGuard_agg w _ _ _ _ _ _ (by kernel_rfl)
set_option maxRecDepth 100000 in
theorem lkq_equal (w : World) (x y : Lk) : (Op.equal 40 (.agg #[.int .i64 x.mac, .int .i64 x.fr, .int .i64 x.to, .int .i64 x.sales, .int .i64 x.coins]) (.agg #[.int .i64 y.mac, .int .i64 y.fr, .int .i64 y.to, .int .i64 y.sales, .int .i64 y.coins])).run Tryz.prog w = .ok (decide (x = y)) w := by
  unfold Op.equal Op.maxDepth
  rw [run_equalIn_agg w 9999 _ _ _ lkq_under lkq_held]
  have hf := lkq_fields
  match h : (Tryz.prog.fieldsOf 40).toList with
  | [f0, f1, f2, f3, f4] =>
    rw [h] at hf
    simp only [List.map_cons, List.map_nil, List.cons.injEq, Prod.mk.injEq, and_true] at hf
    obtain ⟨⟨n0, t0, o0⟩, ⟨n1, t1, o1⟩, ⟨n2, t2, o2⟩, ⟨n3, t3, o3⟩, n4, t4, o4⟩ := hf
    simp only [Op.eqFields, n0, t0, o0, n1, t1, o1, n2, t2, o2, n3, t3, o3, n4, t4, o4]
    have e : decide (x = y) = (decide (x.mac = y.mac) && (decide (x.fr = y.fr) && (decide (x.to = y.to) && (decide (x.sales = y.sales) && (decide (x.coins = y.coins)))))) := by
      cases x
      cases y
      simp
    rw [e]
    simp [go_sem]
    by_cases h0 : x.mac = y.mac
    · by_cases h1 : x.fr = y.fr
      · by_cases h2 : x.to = y.to
        · by_cases h3 : x.sales = y.sales
          · by_cases h4 : x.coins = y.coins
            · simp [h0, h1, h2, h3, h4]
            · simp [h0, h1, h2, h3, h4]
          · simp [h0, h1, h2, h3]
        · simp [h0, h1, h2]
      · simp [h0, h1]
    · simp [h0]
  | [] => rw [h] at hf; simp at hf
  | [f0] => rw [h] at hf; simp at hf
  | [f0, f1] => rw [h] at hf; simp at hf
  | [f0, f1, f2] => rw [h] at hf; simp at hf
  | [f0, f1, f2, f3] => rw [h] at hf; simp at hf
  | f0 :: f1 :: f2 :: f3 :: f4 :: g :: r => rw [h] at hf; simp at hf
theorem lkq_eql (w : World) (x y : Lk) : (binOp .eql 40 (.agg #[.int .i64 x.mac, .int .i64 x.fr, .int .i64 x.to, .int .i64 x.sales, .int .i64 x.coins]) (.agg #[.int .i64 y.mac, .int .i64 y.fr, .int .i64 y.to, .int .i64 y.sales, .int .i64 y.coins])).run Tryz.prog w = .ok (.bool (decide (x = y))) w := by
  simp only [binOp, Sem.run_bind, lkq_equal, Result.andThen_ok, Sem.run_pure]
theorem lkq_neq (w : World) (x y : Lk) : (binOp .neq 40 (.agg #[.int .i64 x.mac, .int .i64 x.fr, .int .i64 x.to, .int .i64 x.sales, .int .i64 x.coins]) (.agg #[.int .i64 y.mac, .int .i64 y.fr, .int .i64 y.to, .int .i64 y.sales, .int .i64 y.coins])).run Tryz.prog w = .ok (.bool (!decide (x = y))) w := by
  simp only [binOp, Sem.run_bind, lkq_equal, Result.andThen_ok, Sem.run_pure]

def oneRec : List Rc := [⟨0, 2, 0, 2, 1, 5⟩]
theorem oneRec_lacks : lacksL (strL none (zeroR 0) [] oneRec) = [⟨0, 0, 2, 1, 5⟩] := by decide
theorem oneRec_can : ∀ s ∈ strL none (zeroR 0) [] oneRec, canOf s.1 s.2.1 s.2.2 := fun s hs => by
  have e : strL none (zeroR 0) [] oneRec = [(zeroR 0, [], ⟨0, 2, 0, 2, 1, 5⟩)] := by decide
  rw [e, List.mem_singleton] at hs
  subst hs
  simp [canOf, lackOf, nS, cS, zeroR]
set_option maxRecDepth 100000 in
set_option maxHeartbeats 3200000 in
theorem tells_any (w : World) : Calls Tryz.prog 7 #[] w (Gives w (.bool true)) := by
  have b1 : Below w.heap.size w (w.alloc (.cells #[.int .i64 5] 3)) := (Below.refl _ _).alloc (Nat.le_refl _) _
  obtain ⟨w1, e1⟩ : ∃ w1, w.alloc (.cells #[.int .i64 5] 3) = w1 := ⟨_, rfl⟩
  have n1 : NumsAt .i64 w1 (.slice (some ⟨w.heap.size, 0, none⟩) 1 1) [5] := by rw [← e1]; exact nums_new w [5] 3 (by simp [maxLen])
  have s1 : w1.heap.size = w.heap.size + 1 := by rw [← e1]; simp
  have b2 : Below w1.heap.size w1 (w1.alloc (.cells #[.int .i64 9] 3)) := (Below.refl _ _).alloc (Nat.le_refl _) _
  obtain ⟨w2, e2⟩ : ∃ w2, w1.alloc (.cells #[.int .i64 9] 3) = w2 := ⟨_, rfl⟩
  have n2 : NumsAt .i64 w2 (.slice (some ⟨w1.heap.size, 0, none⟩) 1 1) [9] := by rw [← e2]; exact nums_new w1 [9] 3 (by simp [maxLen])
  have s2 : w2.heap.size = w1.heap.size + 1 := by rw [← e2]; simp
  have b3 : Below w2.heap.size w2 (w2.alloc (.cells #[.int .i64 9] 3)) := (Below.refl _ _).alloc (Nat.le_refl _) _
  obtain ⟨w3, e3⟩ : ∃ w3, w2.alloc (.cells #[.int .i64 9] 3) = w3 := ⟨_, rfl⟩
  have n3 : NumsAt .i64 w3 (.slice (some ⟨w2.heap.size, 0, none⟩) 1 1) [9] := by rw [← e3]; exact nums_new w2 [9] 3 (by simp [maxLen])
  have s3 : w3.heap.size = w2.heap.size + 1 := by rw [← e3]; simp
  have b4 : Below w3.heap.size w3 (w3.alloc (.cells #[.int .i64 1, .int .i64 0, .int .i64 0, .int .i64 0] 3)) := (Below.refl _ _).alloc (Nat.le_refl _) _
  obtain ⟨w4, e4⟩ : ∃ w4, w3.alloc (.cells #[.int .i64 1, .int .i64 0, .int .i64 0, .int .i64 0] 3) = w4 := ⟨_, rfl⟩
  have n4 : NumsAt .i64 w4 (.slice (some ⟨w3.heap.size, 0, none⟩) 4 4) [1, 0, 0, 0] := by rw [← e4]; exact nums_new w3 [1, 0, 0, 0] 3 (by simp [maxLen])
  rw [e1] at b1
  rw [e2] at b2
  rw [e3] at b3
  rw [e4] at b4
  have b34 := b3.trans (b4.mono b3.size)
  have b24 := b2.trans (b34.mono b2.size)
  have b14 := b1.trans (b24.mono b1.size)
  have Hmiss := Lib.hid (Missing_nil _ _ _ _ 5 9 9 w4 (n1.below b24) (n2.below b34) (n3.below b4) (by decide) (by decide) (by decide) n4)
  have Hb := Lib.hid b14
  have Hs := Lib.hid (And.intro s1 (And.intro s2 s3))
  have He := Lib.hid (And.intro e1 (And.intro e2 (And.intro e3 e4)))
  clear n1 n2 n3 n4 b1 b2 b3 b4 b34 b24 b14 s1 s2 s3 e1 e2 e3 e4
  have Hm2 : Hid (Calls Tryz.prog 29 #[.agg #[.int .i64 1, .slice (some ⟨w.heap.size, 0, none⟩) 1 1, .slice (some ⟨w.heap.size + 1, 0, none⟩) 1 1, .slice (some ⟨w.heap.size + 1 + 1, 0, none⟩) 1 1, .int .i64 0], .slice none 0 0, .slice (some ⟨w.heap.size + 1 + 1 + 1, 0, none⟩) 4 4] w4 (GivesMiss w4)) := by
    have h := Hmiss.out
    rw [Hs.out.2.2, Hs.out.2.1, Hs.out.1] at h
    exact h
  have Hw4 : Hid ((((w.alloc (.cells #[.int .i64 5] 3)).alloc (.cells #[.int .i64 9] 3)).alloc (.cells #[.int .i64 9] 3)).alloc (.cells #[.int .i64 1, .int .i64 0, .int .i64 0, .int .i64 0] 3) = w4) := by
    show _ = _
    rw [He.out.1, He.out.2.1, He.out.2.2.1, He.out.2.2.2]
  clear Hmiss Hs He
  go_enter Tryz.func7, Tryz.ntmps7
  go_wp2_with fail
  rw [Hw4.out]
  refine Hm2.out.mono ?_
  rintro e w5 ⟨A, c, vs, rfl, hown, ⟨A1, c1, hv0⟩, hb5⟩
  have H5 := Lib.hid (Hb.out.trans (hb5.mono Hb.out.size))
  obtain ⟨g, rfl, hg0, hg1⟩ := own_some hown (by omega)
  have Hown := Lib.hid hown
  have Hv0 := Lib.hid hv0
  have hlit := recs_of_own (l := oneRec) (World.ownsRow_lit (base := w5.heap.size) (e := 89) (size := 6) w5 #[.int .i64 0, .int .i64 2, .int .i64 0, .int .u8 2, .int .i64 1, .int .i64 5] 1 (Nat.le_refl _) (by simp [maxLen]) rfl)
  have hbl : Below w5.heap.size w5 (w5.alloc (.cells #[.int .i64 0, .int .i64 2, .int .i64 0, .int .u8 2, .int .i64 1, .int .i64 5] 89)) := (Below.refl _ _).alloc (Nat.le_refl _) _
  have hlk := Lacks_ok _ oneRec _ hlit (by simp [oneRec]) (by simp [oneRec]; exact ⟨by simp, by simp, by simp, by simp⟩) (by simp [oneRec]) oneRec_can
  rw [oneRec_lacks] at hlk
  have Hlk := Lib.hid hlk
  have Hbl := Lib.hid hbl
  clear hown hv0 hlit hbl hlk hb5 Hm2
  go_wp2_with fail
  refine Hlk.out.mono ?_
  rintro e w6 ⟨A6, c6, rfl, hown6, hb6⟩
  simp only [List.length_cons, List.length_nil, Nat.zero_add] at hown6 ⊢
  obtain ⟨g6, rfl, hg60, hg61⟩ := own_some hown6 (by omega)
  have hb56 := Hbl.out.trans (hb6.mono Hbl.out.size)
  have hc0 := cell_below hb56 ((Hown.out.cellAt 0 (by omega)).trans Hv0.out)
  have z0 := hown6.cellAt 0 (by omega)
  have z1 := hown6.cellAt 1 (by omega)
  have z2 := hown6.cellAt 2 (by omega)
  have z3 := hown6.cellAt 3 (by omega)
  have z4 := hown6.cellAt 4 (by omega)
  simp only [lkCells, List.flatMap_cons, List.flatMap_nil, lkC5, List.append_nil, List.getElem?_cons_zero, List.getElem?_cons_succ] at z0 z1 z2 z3 z4
  have qe := fun W : World => lkq_eql W ⟨0, 0, 2, 1, 5⟩ ⟨0, 0, 2, 1, 5⟩
  have qg := fun (W : World) (a b : Operand) => lkq_guard W a b #[.int .i64 0, .int .i64 0, .int .i64 2, .int .i64 1, .int .i64 5] #[.int .i64 0, .int .i64 0, .int .i64 2, .int .i64 1, .int .i64 5]
  simp only [decide_true] at qe
  have H6 := Lib.hid (H5.out.trans (hb56.mono H5.out.size))
  clear hown6 hb6 hb56
  go_wp2
  go_ret
  exact ⟨rfl, H6.out⟩
end Go.Proofs.YtckgapeednokjaaGreat
