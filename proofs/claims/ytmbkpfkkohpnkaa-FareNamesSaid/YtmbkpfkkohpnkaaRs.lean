import Derived.Test.YtmbkpfkkohpnkaaRd
set_option linter.unusedVariables false
set_option linter.unusedSimpArgs false
namespace Go.Proofs.Ytmbkpfkkohpnkaa
open Go Go.Proofs Go.RowKit

/-! ### Taps for the program, missing numbers of the reference -/
set_option maxRecDepth 100000 in
theorem taps_law (t : Tar) (a b c v z : Value) (l : List Tp) (cs : List Int) (w : World) (hT : TarAt w a b c t) (hv : TpsAt w v l) (hc : NumsAt .i64 w z cs) (hl : l.length ≤ 1000000) : Calls Try.prog 31 #[.agg #[.int .i64 t.zones, a, b, c, .int .i64 t.window], v, z] w (Gives w (.int .i64 (tapsF t l cs))) := by
  have hb0 : Below w.heap.size w (w.alloc (.cells #[.int .i64 t.zones, a, b, c, .int .i64 t.window] 24)) := (Below.refl _ _).alloc (Nat.le_refl _) _
  have hx0 : (w.alloc (.cells #[.int .i64 t.zones, a, b, c, .int .i64 t.window] 24)).heap[w.heap.size]? = some (.cells #[.int .i64 t.zones, a, b, c, .int .i64 t.window] 24 (0, 0)) := heap_alloc_new w _
  have Hfa := Lib.hid (fault_law t a b c _ (hT.below hb0))
  have Hv := Lib.hid hv
  have Hc := Lib.hid hc
  have Hx0 := Lib.hid hx0
  have Hb0 := Lib.hid hb0
  clear hT hv hx0 hb0 hc
  cases ht : tarB t with
  | false =>
    have h1 : faultT t = 1 := by unfold faultT; rw [if_neg (by simp [ht])]
    have h2 : tapsF t l cs = 1 := by unfold tapsF; rw [if_neg (by simp [ht])]
    rw [h1] at Hfa
    rw [h2]
    clear h1 h2 ht
    go_enter Try.func31, Try.ntmps31
    go_wp2_with fail
    refine Hfa.out.mono ?_
    rintro e w1 ⟨rfl, hb1⟩
    go_wp2
    go_ret
    exact ⟨rfl, Hb0.out.trans (hb1.mono Hb0.out.size)⟩
  | true =>
    have h1 : faultT t = 0 := by unfold faultT; rw [if_pos ht]
    rw [h1] at Hfa
    have Ht := Lib.hid ht
    have hrw : IntKind.i64.wrap (tapsF t l cs) = tapsF t l cs := by
      unfold tapsF
      rw [if_pos ht]
      repeat (first | rfl | split)
    clear h1 ht
    obtain ⟨F, hF⟩ : ∃ F, tapsF t l cs = F := ⟨_, rfl⟩
    rw [hF] at hrw ⊢
    have HF := Lib.hid hF
    clear hF
    go_enter Try.func31, Try.ntmps31
    go_wp2_with fail
    refine Hfa.out.mono ?_
    rintro e w1 ⟨rfl, hb1⟩
    have hX := (hb1.block w.heap.size (by simp)).trans Hx0.out
    have aq := box_cells hX
    have a0 := aq 0
    have a1 := aq 1
    have a2 := aq 2
    have a3 := aq 3
    have a4 := aq 4
    simp only [List.getElem?_toArray, List.getElem?_cons_zero, List.getElem?_cons_succ] at a0 a1 a2 a3 a4
    clear aq
    have Hb1 := Lib.hid (Hb0.out.trans (hb1.mono Hb0.out.size))
    clear hX hb1
    go_wp2_with fail
    refine (TapsFault_ref t a b c _ _ l cs w1 Ht.out (Hv.out.below Hb1.out) (Hc.out.below Hb1.out) hl).mono ?_
    rintro e w2 ⟨rfl, hb2⟩
    rw [HF.out]
    clear a0 a1 a2 a3 a4
    go_wp2
    go_ret
    exact ⟨rfl, Hb1.out.trans (hb2.mono Hb1.out.size)⟩
theorem tapsF_wrap (t : Tar) (l : List Tp) (cs : List Int) : IntKind.i64.wrap (tapsF t l cs) = tapsF t l cs := by
  unfold tapsF
  repeat (first | rfl | split)
def eqK (x y : List Int) (k : Nat) : Prop := ∀ j : Nat, j < k → x[j]? = y[j]?
set_option maxRecDepth 100000 in
set_option maxHeartbeats 1000000 in
theorem ints_any (u v : Value) (x y : List Int) (w : World) (hu : NumsAt .i64 w u x) (hv : NumsAt .i64 w v y) (hl : x.length ≤ 1000000 ∧ y.length ≤ 1000000) : Calls Try.prog 32 #[u, v] w (Gives w (.bool (decide (x = y)))) := by
  obtain ⟨Au, cu, rfl, _, _⟩ := hu.form
  obtain ⟨Av, cv, rfl, _, _⟩ := hv.form
  obtain ⟨N, hN⟩ : ∃ N, x.length = N := ⟨_, rfl⟩
  obtain ⟨M, hM⟩ : ∃ M, y.length = M := ⟨_, rfl⟩
  rw [hN] at hu hl ⊢
  rw [hM] at hv hl ⊢
  have HN := Lib.hid hN
  have HM := Lib.hid hM
  have Hu := Lib.hid hu
  have Hv := Lib.hid hv
  obtain ⟨E, hE⟩ : ∃ E, decide (x = y) = E := ⟨_, rfl⟩
  rw [hE]
  have HE := Lib.hid hE
  clear hu hv hN hM hE
  by_cases hnm : N = M
  rotate_left
  · have i1 : ((N : Int) != (M : Int)) = true := by simp; omega
    have he : E = false := by rw [← HE.out]; exact decide_eq_false (fun e => hnm (by rw [← HN.out, ← HM.out, e]))
    have He := Lib.hid he
    clear hnm he
    go_enter Try.func32, Try.ntmps32
    go_wp2
    go_ret
    exact gives_bool He.out.symm (Below.refl _ _)
  subst hnm
  have i1 : ((N : Int) != (N : Int)) = false := by simp
  go_enter Try.func32, Try.ntmps32
  go_wp2
  go_loopw [5] (fun s wr => ∃ k : Nat, k ≤ N ∧ s = .int .i64 k ∧ Below w.heap.size w wr ∧ eqK x y k) (fun s wr => N - (intOf s).toNat)
  case atStart => exact ⟨0, by omega, rfl, Below.refl _ _, by intro j h; omega⟩
  case round =>
    obtain ⟨k, hk, rfl, hbr, heq⟩ := hrel
    have Hbr := Lib.hid hbr
    have Heq := Lib.hid heq
    clear hbr heq
    by_cases hlt : k < N
    · obtain ⟨b1, o1, p, rfl, hp, dp, _⟩ := (Hu.out.below Hbr.out).at_ (n := N) (k := k) (by have := HN.out; omega)
      obtain ⟨b2, o2, q, rfl, hq, dq, _⟩ := (Hv.out.below Hbr.out).at_ (n := N) (k := k) (by have := HM.out; omega)
      have ik : (k : Int) < (N : Int) := by omega
      have Hp := Lib.hid hp
      have Hq := Lib.hid hq
      replace dp := Later.cell dp
      replace dq := Later.cell dq
      clear hp hq
      by_cases hpq : p = q
      rotate_left
      · have i2 : (p != q) = true := by simpa using hpq
        have he : E = false := by rw [← HE.out]; exact decide_eq_false (fun e => hpq (by have h1 := Hp.out; have h2 := Hq.out; rw [e, h2] at h1; injection h1 with h1; exact h1.symm))
        have He := Lib.hid he
        clear hpq he
        go_upto_region 6 with (fail)
        refine wp_region_later (by kernel_rfl) (by kernel_rfl) ?_
        repeat (change wpQuiet _ _ _ _ (_ :: _) _; go_big_quiet_step (fail))
        refine wpQuiet_nil ?_
        intro w5 hL5
        have hb5 := Later.out hL5
        clear hL5 dp dq
        go_wp2
        go_ret
        exact gives_bool He.out.symm (Hbr.out.trans (hb5.mono Hbr.out.size))
      · have i2 : (p != q) = false := by simp [hpq]
        have Hpq := Lib.hid hpq
        clear hpq
        go_upto_region 6 with (fail)
        refine wp_region_later (by kernel_rfl) (by kernel_rfl) ?_
        repeat (change wpQuiet _ _ _ _ (_ :: _) _; go_big_quiet_step (fail))
        refine wpQuiet_nil ?_
        intro w5 hL5
        have hb5 := Later.out hL5
        clear hL5 dp dq
        go_wp2
        go_roundw
        case rel =>
          refine ⟨k + 1, by omega, by go_num, Hbr.out.trans (hb5.mono Hbr.out.size), fun j hj => ?_⟩
          by_cases e : j = k
          · subst e
            rw [Hp.out, Hq.out, Hpq.out]
          · exact Heq.out j (by omega)
        case measure => simp [intOf]; omega
    · have ik : ¬ (k : Int) < (N : Int) := by omega
      have he : E = true := by
        rw [← HE.out]
        refine decide_eq_true (List.ext_getElem? fun j => ?_)
        by_cases hj : j < N
        · exact Heq.out j (by omega)
        · rw [List.getElem?_eq_none (by have := HN.out; omega), List.getElem?_eq_none (by have := HM.out; omega)]
      have He := Lib.hid he
      clear he
      go_wp2
      go_ret
      exact gives_bool He.out.symm Hbr.out
def anyM (l : List Tp) (m n : Int) (k : Nat) : Bool := (l.take k).any fun x => decide (x.machine = m) && decide (x.number = n)
theorem anyM_succ {l : List Tp} {m n : Int} {k : Nat} {x : Tp} (h : l[k]? = some x) : anyM l m n (k + 1) = (anyM l m n k || (decide (x.machine = m) && decide (x.number = n))) := by
  unfold anyM
  rw [List.take_add_one, h, List.any_append]
  simp
set_option maxRecDepth 100000 in
set_option maxHeartbeats 2000000 in
theorem Missing_ref (v : Value) (l : List Tp) (m : Int) (cn : Nat) (w : World) (hv : TpsAt w v l) (hl : l.length ≤ 1000000) (hc : cn ≤ 1000) : Calls Try.prog 33 #[v, .int .i64 m, .int .i64 (cn : Int)] w (GivesInts w (missL l m cn)) := by
  obtain ⟨Av, cv, rfl, _, _⟩ := hv.form
  obtain ⟨i0, hi0, hz0, hz1, hz2⟩ := info_parts infoI
  obtain ⟨N, hN⟩ : ∃ N, l.length = N := ⟨_, rfl⟩
  rw [hN] at hv hl ⊢
  have HN := Lib.hid hN
  have Hv := Lib.hid hv
  have ho0 : w.ownsRow w.heap.size 3 1 (.slice none 0 0) 0 ([] : List Value) := World.ownsRow_nil _ _ _ _
  clear hv hN
  go_enter Try.func33, Try.ntmps33
  go_wp2
  go_loopw [7, 8] (fun o s wr => ∃ (k : Nat) (A : Option Addr) (q n : Nat), k ≤ cn ∧ n = (missK l m k).length ∧ o = .slice A n q ∧ s = .int .i64 k ∧ Below w.heap.size w wr ∧ wr.ownsRow w.heap.size 3 1 (.slice A n q) n ((missK l m k).map (Value.int .i64))) (fun o s wr => cn - (intOf s).toNat)
  case atStart => exact ⟨0, none, 0, 0, by omega, rfl, rfl, rfl, Below.refl _ _, ho0⟩
  case round =>
    obtain ⟨k, A, q, n, hk, hn, rfl, rfl, hbr, hor⟩ := hrel
    have Hbr := Lib.hid hbr
    have Hor := Lib.hid hor
    have Hn := Lib.hid hn
    have hnl : n ≤ 1000 := by
      rw [hn]
      have h1 := missK_len l m k
      omega
    clear hbr hor hn ho0
    by_cases hlt : k < cn
    · have ik : (k : Int) < (cn : Int) := by omega
      obtain ⟨W2, hW2⟩ : ∃ W2, wr = W2 := ⟨_, rfl⟩
      rw [hW2] at Hbr Hor ⊢
      clear hW2
      go_wp2
      go_loop [9, 10] (fun f s => ∃ i : Nat, i ≤ N ∧ f = .bool (anyM l m k i) ∧ s = .int .i64 i) (fun f s => N - (intOf s).toNat)
      case atStart => exact ⟨0, by omega, by simp [anyM], rfl⟩
      case round =>
        obtain ⟨i, hi, rfl, rfl⟩ := hrel
        by_cases hli : i < N
        · obtain ⟨bb, oo, x, rfl, hx, d0, d1, d2, d3, d4, d5, d6, _⟩ := (Hv.out.below Hbr.out).at_ (n := N) (k := i) (by have := HN.out; omega)
          have ii : (i : Int) < (N : Int) := by omega
          have hsu := anyM_succ (m := m) (n := (k : Int)) hx
          have Hsu := Lib.hid hsu
          clear hx hsu
          cases han : anyM l m k i with
          | true =>
            rw [han] at Hsu
            have Han := Lib.hid han
            clear han
            go_wp2
            go_round
            case rel => exact ⟨i + 1, by omega, by rw [Hsu.out]; rfl, by go_num⟩
            case measure => simp [intOf]; omega
          | false =>
            rw [han] at Hsu
            have Han := Lib.hid han
            clear han
            by_cases e1 : x.machine = m
            rotate_left
            · have b1 : (x.machine == m) = false := by simpa using e1
              have E1 := Lib.hid e1
              clear e1
              go_wp2
              go_round
              case rel => exact ⟨i + 1, by omega, by rw [Hsu.out, decide_eq_false E1.out]; rfl, by go_num⟩
              case measure => simp [intOf]; omega
            · have b1 : (x.machine == m) = true := by simp [e1]
              have E1 := Lib.hid e1
              clear e1
              have b2 : (x.number == (k : Int)) = decide (x.number = (k : Int)) := by by_cases h : x.number = (k : Int) <;> simp [h]
              go_wp2
              go_round
              case rel => exact ⟨i + 1, by omega, by rw [Hsu.out, decide_eq_true E1.out]; rfl, by go_num⟩
              case measure => simp [intOf]; omega
        · have ii : ¬ (i : Int) < (N : Int) := by omega
          have hh : anyM l m k i = hasB l m k := by
            unfold anyM hasB
            rw [List.take_of_length_le (by have := HN.out; omega)]
          cases han : anyM l m k i with
          | true =>
            rw [han] at hh
            have Hh := Lib.hid hh
            clear han hh
            go_wp2
            go_roundw
            case rel =>
              have he : missK l m (k + 1) = missK l m k := by
                rw [missK_succ, if_pos Hh.out.symm]
                simp
              exact ⟨k + 1, A, q, n, by omega, by rw [he]; exact Hn.out, rfl, by go_num, Hbr.out, by rw [he]; exact Hor.out⟩
            case measure => simp [intOf]; omega
          | false =>
            rw [han] at hh
            have Hh := Lib.hid hh
            clear han hh
            go_wp2_with (at_builtin; refine wpList_append_src _ rfl (.tmp 43) (.tmp 45) 22 rfl w.heap.size 3 i0 _ 1 8 Try.underlying22 hi0 hz0 hz1 hz2 rfl (by omega) _ n _ rfl (Hor.out.alloc _) (some ⟨W2.heap.size, 0, none⟩) 1 1 [.int .i64 (k : Int)] rfl (src_new W2 [.int .i64 (k : Int)] 3 1 1 rfl) (by simp [Value.oneCell']) (by unfold maxLen; omega) (by omega) (Nat.le_trans Hbr.out.size (by simp)) ?_; intro v6 w6 hown6 hg6 hat6)
            have hb6 : Below w.heap.size w w6 := below_grown (Hbr.out.alloc Hbr.out.size _) hg6 (Nat.le_trans Hbr.out.size (by simp)) (Hor.out.alloc _) (Nat.le_refl _)
            obtain ⟨A6, c6, rfl⟩ := own_form hown6
            have Hb6 := Lib.hid hb6
            have Ho6 := Lib.hid hown6
            clear hown6 hg6 hat6 hb6
            go_roundw
            case rel =>
              have he : missK l m (k + 1) = missK l m k ++ [(k : Int)] := by rw [missK_succ, if_neg (by rw [← Hh.out]; decide)]
              refine ⟨k + 1, A6, c6, n + 1, by omega, by rw [he, List.length_append, ← Hn.out]; rfl, rfl, by go_num, Hb6.out, ?_⟩
              rw [he, List.map_append]
              exact Ho6.out
            case measure => simp [intOf]; omega
    · have hke : k = cn := by omega
      have ik : ¬ (k : Int) < (cn : Int) := by omega
      have hor := Hor.out
      have hn := Hn.out
      rw [hke] at hor hn
      rw [hn] at hor
      have Hor2 := Lib.hid hor
      have Hn2 := Lib.hid hn
      clear hor hn hke
      go_wp2
      go_ret
      refine ⟨A, q, ?_, ?_, Hbr.out⟩
      · rw [missL_eq, Int.toNat_natCast, ← Hn2.out]
        rfl
      · rw [missL_eq, Int.toNat_natCast]
        exact Hor2.out
set_option maxRecDepth 100000 in
set_option maxHeartbeats 2000000 in
theorem Taps_law (v : Value) (l : List Tp) (w : World) (hv : TpsAt w v l) (hl : l.length ≤ 1000000) : Calls Try.prog 29 #[v] w fun e w' => ∃ A c, e = .returned (.slice A l.length c) ∧ TpsAt w' (.slice A l.length c) l ∧ Below w.heap.size w w' := by
  obtain ⟨Av, cv, rfl, _, _⟩ := hv.form
  obtain ⟨i0, hi0, hz0, hz1, hz2⟩ := info_parts info_tps
  obtain ⟨N, hN⟩ : ∃ N, l.length = N := ⟨_, rfl⟩
  rw [hN] at hv hl ⊢
  have HN := Lib.hid hN
  have ho0 : w.ownsRow w.heap.size 91 7 (.slice none 0 0) 0 ([] : List Value) := World.ownsRow_nil _ _ _ _
  have Hv := Lib.hid hv
  clear hv hN
  go_enter Try.func29, Try.ntmps29
  go_wp2
  go_loopw [3, 4] (fun o s wr => ∃ (k : Nat) (A : Option Addr) (c : Nat), k ≤ N ∧ o = .slice A k c ∧ s = .int .i64 k ∧ Below w.heap.size w wr ∧ wr.ownsRow w.heap.size 91 7 (.slice A k c) k ((l.take k).flatMap tpC)) (fun o s wr => N - (intOf s).toNat)
  case atStart => exact ⟨0, none, 0, by omega, rfl, rfl, Below.refl _ _, ho0⟩
  case round =>
    obtain ⟨k, A, c, hk, rfl, rfl, hbr, hor⟩ := hrel
    have Hbr := Lib.hid hbr
    have Hor := Lib.hid hor
    clear hbr hor ho0
    by_cases hlt : k < N
    · obtain ⟨bb, oo, x, rfl, hx, d0, d1, d2, d3, d4, d5, d6, _⟩ := Hv.out.at_ (n := N) (k := k) (by have := HN.out; omega)
      have ik : (k : Int) < (N : Int) := by omega
      have htk : l.take (k + 1) = l.take k ++ [x] := by rw [List.take_add_one, hx]; rfl
      have Htk := Lib.hid htk
      have hd : Below w.heap.size w wr.drew := Hbr.out.drew
      clear hx htk
      go_upto_region 5 with (fail)
      refine wp_region_noPanic ?_
      refine wp_region_pick [0, 1, 2, 3, 4, 5, 6, 7, 8, 9, 10, 11, 12, 13, 14, 15, 16, 17, 18, 19, 20] [21, 22, 23, 24, 25] (fun _ => true) (fun w' => Below w.heap.size w w') (by kernel_rfl) (by kernel_rfl) (fun _ _ _ _ _ h => h) hd (fun hne => ?_)
      have n0 := fun y : Meets (fun w' => Below w.heap.size w w') => cell_below y.property d0
      have n1 := fun y : Meets (fun w' => Below w.heap.size w w') => cell_below y.property d1
      have n2 := fun y : Meets (fun w' => Below w.heap.size w w') => cell_below y.property d2
      have n3 := fun y : Meets (fun w' => Below w.heap.size w w') => cell_below y.property d3
      have n4 := fun y : Meets (fun w' => Below w.heap.size w w') => cell_below y.property d4
      have n5 := fun y : Meets (fun w' => Below w.heap.size w w') => cell_below y.property d5
      have n6 := fun y : Meets (fun w' => Below w.heap.size w w') => cell_below y.property d6
      simp only [pick, pickN, List.filterMap_cons, List.filterMap_nil, List.getElem?_cons_zero, List.getElem?_cons_succ, Option.map_some]
      repeat (change wpQuiet _ _ _ _ (_ :: _) _; go_big_quiet_step (fail))
      refine wpQuiet_nil ?_
      clear n0 n1 n2 n3 n4 n5 n6 hne d0 d1 d2 d3 d4 d5 d6
      refine wpSeqP_step (fun K hK => ?_)
      go_simp
      refine (ride_law x.ride _).mono ?_
      rintro e w5 ⟨rfl, hb5⟩
      have hd5 : Below wr.heap.size wr w5 := ((Below.refl _ _).drew).trans (hb5.mono (Nat.le_refl _))
      have Hb5 := Lib.hid (Hbr.out.trans (hd5.mono Hbr.out.size))
      have Ho5 := Lib.hid (own_below Hor.out hd5)
      refine hK.out _ _ (fun _ => Hb5.out) ?_
      clear hK K hb5 hd5
      refine wpSeqP_step (fun K hK => ?_)
      go_simp
      refine hK.out _ _ (fun _ => Hb5.out) ?_
      clear hK K
      refine wpSeqP_step (fun K hK => ?_)
      go_simp
      refine hK.out _ _ (fun _ => Hb5.out.alloc Hb5.out.size _) ?_
      clear hK K
      refine wpSeqP_step (fun K hK => ?_)
      refine step_append_src _ rfl (.tmp 11) (.tmp 34) 50 rfl w.heap.size 91 i0 _ 7 56 Try.underlying50 hi0 hz0 hz1 hz2 rfl (by omega) _ k _ rfl (Ho5.out.alloc _) (some ⟨w5.heap.size, 0, none⟩) 1 1 (tpC x) rfl (src_new w5 (tpC x) 91 1 7 rfl) (by simp [tpC, Value.oneCell']) (by unfold maxLen; omega) (by omega) (Nat.le_trans Hb5.out.size (by simp)) ?_
      intro A6 c6 w6 hown6 hg6 hat6
      have hb6 : Below w.heap.size w w6 := below_grown (Hb5.out.alloc Hb5.out.size _) hg6 (Nat.le_trans Hb5.out.size (by simp)) (Ho5.out.alloc _) (Nat.le_refl _)
      refine hK.out _ _ (fun _ => hb6) ?_
      clear hK K
      refine wpSeqP_step (fun K hK => ?_)
      go_simp
      refine hK.out _ _ (fun _ => hb6) ?_
      clear hK K
      refine wpSeqP_nil ?_
      refine NoPanic.normal ?_
      have Hb6 := Lib.hid hb6
      have Ho6 := Lib.hid hown6
      clear hown6 hg6 hat6 hb6
      go_wp2
      go_roundw
      case rel =>
        refine ⟨k + 1, A6, c6, by omega, rfl, by go_num, Hb6.out, ?_⟩
        rw [Htk.out, List.flatMap_append]
        simpa using Ho6.out
      case measure => simp [intOf]; omega
    · have hke : k = l.length := by have := HN.out; omega
      have ik : ¬ (k : Int) < (N : Int) := by omega
      have hkN : k = N := by omega
      have ho := Hor.out
      rw [hke, List.take_length] at ho
      have hr := tps_own ho
      rw [HN.out] at hr
      have Hr := Lib.hid hr
      subst hkN
      clear hke ho hr
      go_wp2
      go_ret
      exact ⟨A, c, rfl, Hr.out, Hbr.out⟩
end Go.Proofs.Ytmbkpfkkohpnkaa
