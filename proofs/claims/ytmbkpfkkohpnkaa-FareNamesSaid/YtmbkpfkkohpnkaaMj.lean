import Derived.Test.YtmbkpfkkohpnkaaMi
import Derived.Test.YtmbkpfkkohpnkaaCg
set_option linter.unusedVariables false
set_option linter.unusedSimpArgs false
namespace Go.Proofs.Ytmbkpfkkohpnkaa
open Go Go.Proofs Go.RowKit

/-- What Missing hands back. -/
def GivesMissing (t : Tar) (l : List Tp) (cs : List Int) (w : World) (e : Ending) (w' : World) : Prop :=
  Below w.heap.size w w' ∧ ((tapsF t l cs ≠ 0 → e = .returned (.tuple #[.slice none 0 0, .int .i64 (tapsF t l cs)])) ∧
    (tapsF t l cs = 0 → ∃ A k, e = .returned (.tuple #[.slice A (missLL l cs).length k, .int .i64 0]) ∧ RowsAt w' (.slice A (missLL l cs).length k) (missLL l cs)))
/-- What Charges hands back. -/
def GivesDues (t : Tar) (l : List Tp) (cs : List Int) (w : World) (e : Ending) (w' : World) : Prop :=
  Below w.heap.size w w' ∧ ((tapsF t l cs ≠ 0 → e = .returned (.tuple #[.slice none 0 0, .int .i64 (tapsF t l cs)])) ∧
    (tapsF t l cs = 0 → ∃ A k, e = .returned (.tuple #[.slice A (duesL t l).length k, .int .i64 0]) ∧ NumsAt .i64 w' (.slice A (duesL t l).length k) (duesL t l)))
def missN (l : List Tp) (cs : List Int) (k : Nat) : List (List Int) := (List.range k).map fun (m : Nat) => missL l m (cntAt cs m)
theorem missN_succ (l : List Tp) (cs : List Int) (k : Nat) : missN l cs (k + 1) = missN l cs k ++ [missL l k (cntAt cs k)] := by
  unfold missN
  rw [List.range_succ, List.map_append]
  rfl
theorem missN_len (l : List Tp) (cs : List Int) (k : Nat) : (missN l cs k).length = k := by simp [missN]
def duesN (t : Tar) (l : List Tp) (k : Nat) : List Int := (List.range k).map fun (c : Nat) => (chargeT t (onceL (ridesC l c))).1
theorem duesN_succ (t : Tar) (l : List Tp) (k : Nat) : duesN t l (k + 1) = duesN t l k ++ [(chargeT t (onceL (ridesC l k))).1] := by
  unfold duesN
  rw [List.range_succ, List.map_append]
  rfl
theorem duesN_len (t : Tar) (l : List Tp) (k : Nat) : (duesN t l k).length = k := by simp [duesN]
set_option maxRecDepth 100000 in
set_option maxHeartbeats 2000000 in
theorem Missing_any (t : Tar) (a b c v z : Value) (l : List Tp) (cs : List Int) (w : World) (hT : TarAt w a b c t) (hv : TpsAt w v l) (hc : NumsAt .i64 w z cs) (hl : l.length ≤ 1000000) :
    Calls Try.prog 28 #[.agg #[.int .i64 t.zones, a, b, c, .int .i64 t.window], v, z] w (GivesMissing t l cs w) := by
  obtain ⟨i0, hi0, hz0, hz1, hz2⟩ := info_parts infoI
  obtain ⟨iR, hiR, hzR0, hzR1, hzR2⟩ := info_parts infoR
  obtain ⟨A0, c0, rfl, _, _⟩ := hv.form
  obtain ⟨A1, c1, rfl, _, _⟩ := hc.form
  have hb0 : Below w.heap.size w (w.alloc (.cells #[.int .i64 t.zones, a, b, c, .int .i64 t.window] 32)) := (Below.refl _ _).alloc (Nat.le_refl _) _
  have hx0 : (w.alloc (.cells #[.int .i64 t.zones, a, b, c, .int .i64 t.window] 32)).heap[w.heap.size]? = some (.cells #[.int .i64 t.zones, a, b, c, .int .i64 t.window] 32 (0, 0)) := heap_alloc_new w _
  have Hrd := Lib.hid (read_any t a b c _ _ l cs (w.alloc (.cells #[.int .i64 t.zones, a, b, c, .int .i64 t.window] 32)) (hT.below hb0) (hv.below hb0) (hc.below hb0) hl)
  have Hc := Lib.hid hc
  have HT := Lib.hid hT
  have HX0 := Lib.hid hx0
  have Hb0 := Lib.hid hb0
  clear hT hv hc hx0 hb0
  generalize hcl : cs.length = CL at *
  have HCL := Lib.hid hcl
  clear hcl
  go_enter Try.func28, Try.ntmps28
  go_wp2_with fail
  refine Hrd.out.mono ?_
  rintro e w1 ⟨hb1, hbad, hgood⟩
  have Hb1 := Lib.hid (Hb0.out.trans (hb1.mono Hb0.out.size))
  have HX1 := Lib.hid ((hb1.block w.heap.size (by simp)).trans HX0.out)
  clear hb1 Hrd
  by_cases h0 : tapsF t l cs = 0
  rotate_left
  · have hbb := hbad h0
    subst hbb
    have H0 := Lib.hid h0
    have hd : (tapsF t l cs != 0) = true := by simpa using h0
    simp only [toldC, nilU]
    clear hbad hgood h0
    generalize hF : tapsF t l cs = E at *
    have HF := Lib.hid hF
    clear hF
    go_wp2
    go_ret2
    refine ⟨Hb1.out.alloc Hb1.out.size _, fun _ => by rw [HF.out]; rfl, fun h => absurd (HF.out.symm.trans h) H0.out⟩
  obtain ⟨us, K, n, F, rfl, hr, hM, hF, hV⟩ := hgood h0
  have H0 := Lib.hid h0
  have hok := tapsF_ok.1 h0
  have Hok := Lib.hid hok
  have HM := Lib.hid hM
  have HF := Lib.hid hF
  have HV := Lib.hid hV
  have Hr := Lib.hid hr
  have hsl : ∀ c, c < 10 → ∃ A n m, us c = .slice A n m := fun c hc => by
    obtain ⟨A, k, e, _⟩ := (hr c hc).form
    exact ⟨A, _, k, e⟩
  have Hsl := Lib.hid hsl
  obtain ⟨eA0, ek0, e0, _, _⟩ := (hr 0 (by omega)).form
  obtain ⟨eA1, ek1, e1, _, _⟩ := (hr 1 (by omega)).form
  obtain ⟨eA2, ek2, e2, _, _⟩ := (hr 2 (by omega)).form
  obtain ⟨eA3, ek3, e3, _, _⟩ := (hr 3 (by omega)).form
  obtain ⟨eA4, ek4, e4, _, _⟩ := (hr 4 (by omega)).form
  obtain ⟨eA5, ek5, e5, _, _⟩ := (hr 5 (by omega)).form
  obtain ⟨eA6, ek6, e6, _, _⟩ := (hr 6 (by omega)).form
  obtain ⟨eA7, ek7, e7, _, _⟩ := (hr 7 (by omega)).form
  obtain ⟨eA8, ek8, e8, _, _⟩ := (hr 8 (by omega)).form
  obtain ⟨eA9, ek9, e9, _, _⟩ := (hr 9 (by omega)).form
  simp only [toldC, e0, e1, e2, e3, e4, e5, e6, e7, e8, e9]
  clear hbad hgood h0 hok hM hF hV hr hsl
  have Hmis := Lib.hid (fun (m c : Int) (W : World) (h : MapN 139 W K n F) (hm : 0 ≤ m ∧ m ≤ 3) (hc : 0 ≤ c ∧ c ≤ 50) => missing_any us K n F l m c W h HF.out HV.out Hsl.out hm hc)
  simp only [e0, e1, e2, e3, e4, e5, e6, e7, e8, e9] at Hmis
  clear e0 e1 e2 e3 e4 e5 e6 e7 e8 e9
  go_upto_region 2 with (fail)
  refine wp_name (fun V => Below w1.heap.size w1 V ∧ V.heap[w1.heap.size]? = some (.cells #[.slice eA0 (onceL (ridesC l 0)).length ek0, .slice eA1 (onceL (ridesC l 1)).length ek1, .slice eA2 (onceL (ridesC l 2)).length ek2, .slice eA3 (onceL (ridesC l 3)).length ek3, .slice eA4 (onceL (ridesC l 4)).length ek4, .slice eA5 (onceL (ridesC l 5)).length ek5, .slice eA6 (onceL (ridesC l 6)).length ek6, .slice eA7 (onceL (ridesC l 7)).length ek7, .slice eA8 (onceL (ridesC l 8)).length ek8, .slice eA9 (onceL (ridesC l 9)).length ek9, .map (some K)] 109 (0, 0))) ⟨(Below.refl _ _).alloc (Nat.le_refl _) _, heap_alloc_new w1 _⟩ (fun V hV => ?_)
  obtain ⟨hbV, hXV⟩ := hV
  have HbV := Lib.hid (Hb1.out.trans (hbV.mono Hb1.out.size))
  have HMV := Lib.hid (HM.out.below hbV)
  have HXV := Lib.hid hXV
  have ho0 : V.ownsRow V.heap.size 22 1 (.slice none 0 0) 0 ([] : List Value) := World.ownsRow_nil _ _ _ _
  have hltX : w1.heap.size < V.heap.size := (Array.getElem?_eq_some_iff.1 hXV).1
  generalize w1.heap.size = XB at *
  clear hbV hXV Hb1 HM HX1 HX0 Hr Hb0
  have hi4 : CL ≤ 4 := Nat.le_of_eq (HCL.out.symm.trans Hok.out.four)
  go_wp2
  go_loopw [10, 25] (fun o s wr => ∃ (k : Nat) (A : Option Addr) (cq : Nat) (vs : List Value), k ≤ CL ∧ o = .slice A k cq ∧ s = .int .i64 k ∧ Below V.heap.size V wr ∧ wr.ownsRow V.heap.size 22 1 (.slice A k cq) k vs ∧ RowsOwn wr V.heap.size vs (missN l cs k)) (fun o s wr => CL - (intOf s).toNat)
  case atStart => exact ⟨0, none, 0, [], by omega, rfl, rfl, Below.refl _ _, ho0, rfl, fun j l h => by simp [missN] at h⟩
  case round =>
    obtain ⟨k, A, cq, vs, hk, rfl, rfl, hbr, hor, hrr⟩ := hrel
    have Hbr := Lib.hid hbr
    have Hor := Lib.hid hor
    have Hrr := Lib.hid hrr
    have HMr := Lib.hid (HMV.out.below hbr)
    have HXr := Lib.hid ((hbr.block _ hltX).trans HXV.out)
    clear hbr hor hrr ho0
    by_cases hlt : k < CL
    · have hcr := (Hc.out.below HbV.out).below Hbr.out
      obtain ⟨bb, oo, x, rfl, hx, dx, _⟩ := NumsAt.at_ (A := A1) (n := CL) (c := c1) (l := cs) hcr (k := k) (by have := HCL.out; omega)
      have hxc := Hok.out.cnt x (List.mem_of_getElem? hx)
      have hcx : cntAt cs (k : Int) = x := by
        unfold cntAt
        rw [Int.toNat_natCast, hx]
        rfl
      have Hcx := Lib.hid hcx
      have Hxc := Lib.hid hxc
      have ik : (k : Int) < (CL : Int) := by omega
      have q := box_cells HXr.out
      have q0 := q 0
      have q1 := q 1
      have q2 := q 2
      have q3 := q 3
      have q4 := q 4
      have q5 := q 5
      have q6 := q 6
      have q7 := q 7
      have q8 := q 8
      have q9 := q 9
      have q10 := q 10
      simp only [List.getElem?_toArray, List.getElem?_cons_zero, List.getElem?_cons_succ] at q0 q1 q2 q3 q4 q5 q6 q7 q8 q9 q10
      clear q hcr hx hcx hxc
      go_wp2_with fail
      refine (Hmis.out (k : Int) x wr HMr.out (by omega) Hxc.out).mono ?_
      rintro e w5 ⟨A5, c5, rfl, ho5, hb5⟩
      clear q0 q1 q2 q3 q4 q5 q6 q7 q8 q9 q10
      obtain ⟨ml, hml⟩ : ∃ ml, missL l (k : Int) x = ml := ⟨_, rfl⟩
      rw [hml] at ho5 ⊢
      have Hml := Lib.hid hml
      have Hb5 := Lib.hid (Hbr.out.trans (hb5.mono Hbr.out.size))
      have Ho5 := Lib.hid (own_mono ho5 Hbr.out.size)
      have Hr5 := Lib.hid (Hrr.out.below hb5)
      have Hor5 := Lib.hid (own_below Hor.out hb5)
      clear hml ho5 hb5
      go_wp2_with (at_builtin; refine wpList_append_src _ rfl (.tmp 30) (.tmp 35) 47 rfl V.heap.size 22 iR _ 1 24 Try.underlying47 hiR hzR0 hzR1 hzR2 rfl (by omega) _ k _ rfl (Hor5.out.alloc _) (some ⟨w5.heap.size, 0, none⟩) 1 1 [.slice A5 ml.length c5] rfl (src_new w5 [.slice A5 ml.length c5] 22 1 1 rfl) (by simp [Value.oneCell']) (by unfold maxLen; omega) (by omega) (Nat.le_trans Hb5.out.size (by simp)) ?_; intro v6 w6 hown6 hg6 hat6)
      have hb6 : Below V.heap.size V w6 := below_grown (Hb5.out.alloc Hb5.out.size _) hg6 (Nat.le_trans Hb5.out.size (by simp)) (Hor5.out.alloc _) (Nat.le_refl _)
      obtain ⟨A6, c6, rfl⟩ := own_form hown6
      have hrw : RowsOwn w6 V.heap.size vs (missN l cs k) := (Hr5.out.below ((Below.refl _ _).alloc (Nat.le_refl _) _)).kept (Hor5.out.alloc _) (by decide) hg6
      have hiw : w6.ownsRow V.heap.size 3 1 (.slice A5 ml.length c5) ml.length (ml.map (.int .i64)) := (Ho5.out.alloc _).kept hg6 (own_apart (Ho5.out.alloc (.cells #[.slice A5 ml.length c5] 22)) (Hor5.out.alloc (.cells #[.slice A5 ml.length c5] 22)) (by decide))
      have Hb6 := Lib.hid hb6
      have Ho6 := Lib.hid hown6
      have Hr6 := Lib.hid hrw
      have Hi6 := Lib.hid hiw
      clear hown6 hg6 hat6 hb6 hrw hiw
      refine ⟨?_, ?measure⟩
      refine ⟨_, _, _, _, _, _, _, _, _, _, _, _, _, _, _, _, ?rel, rfl⟩
      case rel =>
        refine ⟨k + 1, A6, c6, vs ++ [.slice A5 ml.length c5], by omega, rfl, by go_num, Hb6.out, Ho6.out, ?_⟩
        rw [missN_succ, Hcx.out, Hml.out]
        exact Hr6.out.snoc Hi6.out
      case measure => simp [intOf]; omega
    · obtain rfl : k = CL := by omega
      have ik : ¬ (k : Int) < (k : Int) := by omega
      go_wp2
      go_ret2
      have hlen : (missLL l cs).length = k := by simp [missLL, HCL.out]
      have hmm : missN l cs k = missLL l cs := by unfold missN missLL; rw [HCL.out]
      refine ⟨HbV.out.trans (Hbr.out.mono HbV.out.size), fun h => absurd H0.out h, fun _ => ⟨A, cq, by rw [hlen]; rfl, ?_⟩⟩
      have := rows_of_own Hor.out Hrr.out
      rw [hmm] at this
      rw [hlen]
      exact this
end Go.Proofs.Ytmbkpfkkohpnkaa
