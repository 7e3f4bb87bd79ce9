import Derived.Test.YtmbkpfkkohpnkaaMj
set_option linter.unusedVariables false
set_option linter.unusedSimpArgs false
namespace Go.Proofs.Ytmbkpfkkohpnkaa
open Go Go.Proofs Go.RowKit

set_option maxRecDepth 100000 in
set_option maxHeartbeats 2000000 in
theorem Charges_any (t : Tar) (a b c v z : Value) (l : List Tp) (cs : List Int) (w : World) (hT : TarAt w a b c t) (hv : TpsAt w v l) (hc : NumsAt .i64 w z cs) (hl : l.length ≤ 1000000) :
    Calls Try.prog 35 #[.agg #[.int .i64 t.zones, a, b, c, .int .i64 t.window], v, z] w (GivesDues t l cs w) := by
  obtain ⟨i0, hi0, hz0, hz1, hz2⟩ := info_parts infoI
  obtain ⟨iR, hiR, hzR0, hzR1, hzR2⟩ := info_parts infoR
  obtain ⟨A0, c0, rfl, _, _⟩ := hv.form
  obtain ⟨A1, c1, rfl, _, _⟩ := hc.form
  have hb0 : Below w.heap.size w (w.alloc (.cells #[.int .i64 t.zones, a, b, c, .int .i64 t.window] 32)) := (Below.refl _ _).alloc (Nat.le_refl _) _
  have hx0 : (w.alloc (.cells #[.int .i64 t.zones, a, b, c, .int .i64 t.window] 32)).heap[w.heap.size]? = some (.cells #[.int .i64 t.zones, a, b, c, .int .i64 t.window] 32 (0, 0)) := heap_alloc_new w _
  have Hrd := Lib.hid (read_any t a b c _ _ l cs (w.alloc (.cells #[.int .i64 t.zones, a, b, c, .int .i64 t.window] 32)) (hT.below hb0) (hv.below hb0) (hc.below hb0) hl)
  have Hc := Lib.hid hc
  have HT := Lib.hid hT
  have HX0 := Lib.hid hx0
  have Hb0 := Lib.hid hb0
  clear hT hv hc hx0 hb0
  generalize hcl : cs.length = CL at *
  have HCL := Lib.hid hcl
  clear hcl
  go_enter Try.func35, Try.ntmps35
  go_wp2_with fail
  refine Hrd.out.mono ?_
  rintro e w1 ⟨hb1, hbad, hgood⟩
  have Hb1 := Lib.hid (Hb0.out.trans (hb1.mono Hb0.out.size))
  have HX1 := Lib.hid ((hb1.block w.heap.size (by simp)).trans HX0.out)
  clear hb1 Hrd
  by_cases h0 : tapsF t l cs = 0
  rotate_left
  · have hbb := hbad h0
    subst hbb
    have H0 := Lib.hid h0
    have hd : (tapsF t l cs != 0) = true := by simpa using h0
    simp only [toldC, nilU]
    clear hbad hgood h0
    generalize hF : tapsF t l cs = E at *
    have HF := Lib.hid hF
    clear hF
    go_wp2
    go_ret2
    refine ⟨Hb1.out.alloc Hb1.out.size _, fun _ => by rw [HF.out]; rfl, fun h => absurd (HF.out.symm.trans h) H0.out⟩
  obtain ⟨us, K, n, F, rfl, hr, hM, hF, hV⟩ := hgood h0
  have H0 := Lib.hid h0
  have hok := tapsF_ok.1 h0
  have Hok := Lib.hid hok
  have HM := Lib.hid hM
  have HF := Lib.hid hF
  have HV := Lib.hid hV
  have Hr := Lib.hid hr
  have hsl : ∀ c, c < 10 → ∃ A n m, us c = .slice A n m := fun c hc => by
    obtain ⟨A, k, e, _⟩ := (hr c hc).form
    exact ⟨A, _, k, e⟩
  have Hsl := Lib.hid hsl
  obtain ⟨eA0, ek0, e0, _, _⟩ := (hr 0 (by omega)).form
  obtain ⟨eA1, ek1, e1, _, _⟩ := (hr 1 (by omega)).form
  obtain ⟨eA2, ek2, e2, _, _⟩ := (hr 2 (by omega)).form
  obtain ⟨eA3, ek3, e3, _, _⟩ := (hr 3 (by omega)).form
  obtain ⟨eA4, ek4, e4, _, _⟩ := (hr 4 (by omega)).form
  obtain ⟨eA5, ek5, e5, _, _⟩ := (hr 5 (by omega)).form
  obtain ⟨eA6, ek6, e6, _, _⟩ := (hr 6 (by omega)).form
  obtain ⟨eA7, ek7, e7, _, _⟩ := (hr 7 (by omega)).form
  obtain ⟨eA8, ek8, e8, _, _⟩ := (hr 8 (by omega)).form
  obtain ⟨eA9, ek9, e9, _, _⟩ := (hr 9 (by omega)).form
  simp only [toldC, e0, e1, e2, e3, e4, e5, e6, e7, e8, e9]
  clear hbad hgood h0 hok hM hF hV hr hsl
  clear Hsl
  have He0 : ∀ j, j < 10 → ∃ A k, us j = .slice A (onceL (ridesC l j)).length k := fun j hj => by
    obtain ⟨A, k, e, _⟩ := (Hr.out j hj).form
    exact ⟨A, k, e⟩
  have Huj := Lib.hid He0
  clear He0
  have E0 := Lib.hid e0
  have E1 := Lib.hid e1
  have E2 := Lib.hid e2
  have E3 := Lib.hid e3
  have E4 := Lib.hid e4
  have E5 := Lib.hid e5
  have E6 := Lib.hid e6
  have E7 := Lib.hid e7
  have E8 := Lib.hid e8
  have E9 := Lib.hid e9
  clear e0 e1 e2 e3 e4 e5 e6 e7 e8 e9
  go_upto_region 2 with (fail)
  refine wp_name (fun V => Below w1.heap.size w1 V ∧ V.heap[w1.heap.size]? = some (.cells #[.slice eA0 (onceL (ridesC l 0)).length ek0, .slice eA1 (onceL (ridesC l 1)).length ek1, .slice eA2 (onceL (ridesC l 2)).length ek2, .slice eA3 (onceL (ridesC l 3)).length ek3, .slice eA4 (onceL (ridesC l 4)).length ek4, .slice eA5 (onceL (ridesC l 5)).length ek5, .slice eA6 (onceL (ridesC l 6)).length ek6, .slice eA7 (onceL (ridesC l 7)).length ek7, .slice eA8 (onceL (ridesC l 8)).length ek8, .slice eA9 (onceL (ridesC l 9)).length ek9, .map (some K)] 109 (0, 0))) ⟨(Below.refl _ _).alloc (Nat.le_refl _) _, heap_alloc_new w1 _⟩ (fun V hV => ?_)
  obtain ⟨hbV, hXV⟩ := hV
  have HbV := Lib.hid (Hb1.out.trans (hbV.mono Hb1.out.size))
  have HXV := Lib.hid hXV
  have hltT : w.heap.size < V.heap.size := Nat.lt_of_lt_of_le (Array.getElem?_eq_some_iff.1 HX1.out).1 hbV.size
  have HTV := Lib.hid ((hbV.block _ (Array.getElem?_eq_some_iff.1 HX1.out).1).trans HX1.out)
  have HrV := Lib.hid (fun j hj => (Hr.out j hj).below hbV)
  have ho0 : V.ownsRow V.heap.size 3 1 (.slice none 0 0) 0 ([] : List Value) := World.ownsRow_nil _ _ _ _
  generalize w1.heap.size = XB at *
  clear hbV Hb1 HM HX1 HX0 Hr Hb0
  have q := box_cells hXV
  have q0 := q 0
  have q1 := q 1
  have q2 := q 2
  have q3 := q 3
  have q4 := q 4
  have q5 := q 5
  have q6 := q 6
  have q7 := q 7
  have q8 := q 8
  have q9 := q 9
  have q10 := q 10
  simp only [List.getElem?_toArray, List.getElem?_cons_zero, List.getElem?_cons_succ] at q0 q1 q2 q3 q4 q5 q6 q7 q8 q9 q10
  clear q hXV
  go_wp2
  clear q0 q1 q2 q3 q4 q5 q6 q7 q8 q9 q10
  go_loopw [10, 25] (fun o s wr => ∃ (k : Nat) (A : Option Addr) (cq : Nat), k ≤ 10 ∧ o = .slice A k cq ∧ s = .int .i64 k ∧ Below V.heap.size V wr ∧ wr.ownsRow V.heap.size 3 1 (.slice A k cq) k ((duesN t l k).map (Value.int .i64))) (fun o s wr => 10 - (intOf s).toNat)
  case atStart => exact ⟨0, none, 0, by omega, rfl, rfl, Below.refl _ _, ho0⟩
  case round =>
    obtain ⟨k, A, cq, hk, rfl, rfl, hbr, hor⟩ := hrel
    have Hbr := Lib.hid hbr
    have Hor := Lib.hid hor
    have HTr := Lib.hid ((hbr.block _ hltT).trans HTV.out)
    clear hbr hor ho0
    by_cases hlt : k < 10
    · obtain ⟨Aj, kj, ej⟩ := Huj.out k hlt
      have Hej := Lib.hid ej
      have hget : ∀ W : World, (Instr.index 106 (.agg #[.slice eA0 (onceL (ridesC l 0)).length ek0, .slice eA1 (onceL (ridesC l 1)).length ek1, .slice eA2 (onceL (ridesC l 2)).length ek2, .slice eA3 (onceL (ridesC l 3)).length ek3, .slice eA4 (onceL (ridesC l 4)).length ek4, .slice eA5 (onceL (ridesC l 5)).length ek5, .slice eA6 (onceL (ridesC l 6)).length ek6, .slice eA7 (onceL (ridesC l 7)).length ek7, .slice eA8 (onceL (ridesC l 8)).length ek8, .slice eA9 (onceL (ridesC l 9)).length ek9]) (.int .i64 (k : Int))).run Try.prog W = .ok (.slice Aj (onceL (ridesC l (k : Int))).length kj) W := by
        rw [← ej]
        exact ten_cases (p := fun k => ∀ W : World, (Instr.index 106 (.agg #[.slice eA0 (onceL (ridesC l 0)).length ek0, .slice eA1 (onceL (ridesC l 1)).length ek1, .slice eA2 (onceL (ridesC l 2)).length ek2, .slice eA3 (onceL (ridesC l 3)).length ek3, .slice eA4 (onceL (ridesC l 4)).length ek4, .slice eA5 (onceL (ridesC l 5)).length ek5, .slice eA6 (onceL (ridesC l 6)).length ek6, .slice eA7 (onceL (ridesC l 7)).length ek7, .slice eA8 (onceL (ridesC l 8)).length ek8, .slice eA9 (onceL (ridesC l 9)).length ek9]) (.int .i64 (k : Int))).run Try.prog W = .ok (us k) W) hlt (fun W => by rw [E0.out]; kernel_rfl) (fun W => by rw [E1.out]; kernel_rfl) (fun W => by rw [E2.out]; kernel_rfl) (fun W => by rw [E3.out]; kernel_rfl) (fun W => by rw [E4.out]; kernel_rfl) (fun W => by rw [E5.out]; kernel_rfl) (fun W => by rw [E6.out]; kernel_rfl) (fun W => by rw [E7.out]; kernel_rfl) (fun W => by rw [E8.out]; kernel_rfl) (fun W => by rw [E9.out]; kernel_rfl)
      have ik : (k : Int) < 10 := by omega
      have ik0 : (0 : Int) ≤ (k : Int) := by omega
      have qt := box_cells HTr.out
      have t0 := qt 0
      have t1 := qt 1
      have t2 := qt 2
      have t3 := qt 3
      have t4 := qt 4
      simp only [List.getElem?_toArray, List.getElem?_cons_zero, List.getElem?_cons_succ] at t0 t1 t2 t3 t4
      clear qt ej
      have hjr := (HrV.out k hlt).below Hbr.out
      rw [Hej.out] at hjr
      have hrode := Hok.out.rode hlt
      have hTr := (HT.out.below HbV.out).below Hbr.out
      have hbd := pay_bd hrode noneC
      obtain ⟨rl, hrl⟩ : ∃ rl, onceL (ridesC l (k : Int)) = rl := ⟨_, rfl⟩
      rw [hrl] at hjr hrode hget hbd
      have Hrl := Lib.hid hrl
      have Hjr := Lib.hid hjr
      have Hro := Lib.hid hrode
      have HTr2 := Lib.hid hTr
      clear hrl hjr hrode hTr
      go_wp2_with fail
      refine (charge_any t a b c _ rl wr Hro.out HTr2.out Hjr.out).mono ?_
      rintro e w5 ⟨u5, rfl, ⟨A5, c5, rfl, ho5⟩, hb5⟩
      clear hget t0 t1 t2 t3 t4
      have qf : ∀ (A : Option Addr) (n c : Nat) (p : Int) (W : World), (Instr.field 99 (.agg #[.slice A n c, .int .i64 p]) 1).run Try.prog W = .ok (.int .i64 p) W := fun A n c p W => by kernel_rfl
      have hpq : (pay t rl noneC).1 = (chargeT t rl).1 := rfl
      rw [hpq] at hbd
      obtain ⟨q, hq⟩ : ∃ q, chargeT t rl = q := ⟨_, rfl⟩
      rw [hq] at ho5 hbd ⊢
      have Hq := Lib.hid hq
      have Hb5 := Lib.hid (Hbr.out.trans (hb5.mono Hbr.out.size))
      have Hor5 := Lib.hid (own_below Hor.out hb5)
      clear hq ho5 hb5 hpq
      go_wp2_with (at_builtin; refine wpList_append_src _ rfl (.tmp 28) (.tmp 33) 22 rfl V.heap.size 3 i0 _ 1 8 Try.underlying22 hi0 hz0 hz1 hz2 rfl (by omega) _ k _ rfl (Hor5.out.alloc _) (some ⟨w5.heap.size, 0, none⟩) 1 1 [.int .i64 q.1] rfl (src_new w5 [.int .i64 q.1] 3 1 1 rfl) (by simp [Value.oneCell']) (by unfold maxLen; omega) (by omega) (Nat.le_trans Hb5.out.size (by simp)) ?_; intro v6 w6 hown6 hg6 hat6)
      have hb6 : Below V.heap.size V w6 := below_grown (Hb5.out.alloc Hb5.out.size _) hg6 (Nat.le_trans Hb5.out.size (by simp)) (Hor5.out.alloc _) (Nat.le_refl _)
      obtain ⟨A6, c6, rfl⟩ := own_form hown6
      have Hb6 := Lib.hid hb6
      have Ho6 := Lib.hid hown6
      clear hown6 hg6 hat6 hb6
      refine ⟨?_, ?measure⟩
      refine ⟨_, _, _, _, _, _, _, _, _, _, _, _, _, ?rel, rfl⟩
      case rel =>
        refine ⟨k + 1, A6, c6, by omega, rfl, by go_num, Hb6.out, ?_⟩
        rw [duesN_succ, List.map_append, Hrl.out, Hq.out]
        exact Ho6.out
      case measure => simp [intOf]; omega
    · have ik : ¬ (k : Int) < 10 := by omega
      have hk10 : k = 10 := by omega
      have Hk10 := Lib.hid hk10
      clear hk10
      go_wp2
      go_ret2
      have hmm : duesN t l k = duesL t l := by unfold duesN duesL; rw [Hk10.out]
      have hlen : (duesL t l).length = k := by rw [duesL_len, Hk10.out]
      refine ⟨HbV.out.trans (Hbr.out.mono HbV.out.size), fun h => absurd H0.out h, fun _ => ⟨A, cq, by rw [hlen]; rfl, ?_⟩⟩
      have ho := Hor.out
      rw [hmm] at ho
      rw [← hlen] at ho
      have := nums_of_own ho
      rw [hlen] at this ⊢
      exact this
end Go.Proofs.Ytmbkpfkkohpnkaa
