import Derived.Test.YtmbkpfkkohpnkaaRe
import Derived.Test.YtmbkpfkkohpnkaaRw
set_option linter.unusedVariables false
set_option linter.unusedSimpArgs false
namespace Go.Proofs.Ytmbkpfkkohpnkaa
open Go Go.Proofs Go.RowKit

/-! ### missing, Missing -/
def missK (l : List Tp) (m : Int) (k : Nat) : List Int := ((List.range k).filter fun (i : Nat) => !hasB l m i).map fun (i : Nat) => (i : Int)
theorem missK_succ (l : List Tp) (m : Int) (k : Nat) : missK l m (k + 1) = missK l m k ++ (if hasB l m k then [] else [(k : Int)]) := by
  unfold missK
  rw [List.range_succ, List.filter_append, List.map_append]
  by_cases h : hasB l m k = true
  · simp [h]
  · simp [h]
theorem missK_len (l : List Tp) (m : Int) (k : Nat) : (missK l m k).length ≤ k := by
  unfold missK
  rw [List.length_map]
  exact Nat.le_trans (List.length_filter_le _ _) (by simp)
theorem missL_eq (l : List Tp) (m n : Int) : missL l m n = missK l m n.toNat := rfl
set_option maxRecDepth 100000 in
set_option maxHeartbeats 2000000 in
theorem missing_any (us : Nat → Value) (K n : Nat) (F : Value → Option Value) (l : List Tp) (m c : Int) (w : World) (hM : MapN 139 w K n F) (hF : ∀ m n : Int, 0 ≤ m → m ≤ 3 → 0 ≤ n → n < 50 → (F (numV m n)).isSome = hasB l m n) (hV : ∀ m u, F m = some u → ∃ y : Tp, u = tpV y)
    (hs : ∀ c, c < 10 → ∃ A n m, us c = .slice A n m) (hm : 0 ≤ m ∧ m ≤ 3) (hc : 0 ≤ c ∧ c ≤ 50) : Calls Try.prog 59 #[.agg #[us 0, us 1, us 2, us 3, us 4, us 5, us 6, us 7, us 8, us 9, .map (some K)], .int .i64 m, .int .i64 c] w (GivesInts w (missL l m c)) := by
  obtain ⟨i0, hi0, hz0, hz1, hz2⟩ := info_parts infoI
  obtain ⟨cn, rfl⟩ : ∃ cn : Nat, c = (cn : Int) := ⟨c.toNat, by omega⟩
  have HM := Lib.hid hM
  have HF := Lib.hid hF
  have HV := Lib.hid hV
  have Hm := Lib.hid hm
  have hcn : cn ≤ 50 := by omega
  clear hM hF hV hm hc
  obtain ⟨eA0, en0, ek0, e0⟩ := hs 0 (by omega)
  obtain ⟨eA1, en1, ek1, e1⟩ := hs 1 (by omega)
  obtain ⟨eA2, en2, ek2, e2⟩ := hs 2 (by omega)
  obtain ⟨eA3, en3, ek3, e3⟩ := hs 3 (by omega)
  obtain ⟨eA4, en4, ek4, e4⟩ := hs 4 (by omega)
  obtain ⟨eA5, en5, ek5, e5⟩ := hs 5 (by omega)
  obtain ⟨eA6, en6, ek6, e6⟩ := hs 6 (by omega)
  obtain ⟨eA7, en7, ek7, e7⟩ := hs 7 (by omega)
  obtain ⟨eA8, en8, ek8, e8⟩ := hs 8 (by omega)
  obtain ⟨eA9, en9, ek9, e9⟩ := hs 9 (by omega)
  rw [e0, e1, e2, e3, e4, e5, e6, e7, e8, e9]
  have hbx : (w.alloc (.cells #[.slice eA0 en0 ek0, .slice eA1 en1 ek1, .slice eA2 en2 ek2, .slice eA3 en3 ek3, .slice eA4 en4 ek4, .slice eA5 en5 ek5, .slice eA6 en6 ek6, .slice eA7 en7 ek7, .slice eA8 en8 ek8, .slice eA9 en9 ek9, .map (some K)] 109)).heap[w.heap.size]? = some (.cells #[.slice eA0 en0 ek0, .slice eA1 en1 ek1, .slice eA2 en2 ek2, .slice eA3 en3 ek3, .slice eA4 en4 ek4, .slice eA5 en5 ek5, .slice eA6 en6 ek6, .slice eA7 en7 ek7, .slice eA8 en8 ek8, .slice eA9 en9 ek9, .map (some K)] 109 (0, 0)) := heap_alloc_new w _
  have hb0 : Below w.heap.size w (w.alloc (.cells #[.slice eA0 en0 ek0, .slice eA1 en1 ek1, .slice eA2 en2 ek2, .slice eA3 en3 ek3, .slice eA4 en4 ek4, .slice eA5 en5 ek5, .slice eA6 en6 ek6, .slice eA7 en7 ek7, .slice eA8 en8 ek8, .slice eA9 en9 ek9, .map (some K)] 109)) := (Below.refl _ _).alloc (Nat.le_refl _) _
  have HX := Lib.hid hbx
  have Hb0 := Lib.hid hb0
  clear hbx hb0 hs e0 e1 e2 e3 e4 e5 e6 e7 e8 e9
  go_enter Try.func59, Try.ntmps59
  go_upto_region 1 with (fail)
  refine wp_name (fun V => Below w.heap.size w V ∧ V.heap[w.heap.size]? = some (.cells #[.slice eA0 en0 ek0, .slice eA1 en1 ek1, .slice eA2 en2 ek2, .slice eA3 en3 ek3, .slice eA4 en4 ek4, .slice eA5 en5 ek5, .slice eA6 en6 ek6, .slice eA7 en7 ek7, .slice eA8 en8 ek8, .slice eA9 en9 ek9, .map (some K)] 109 (0, 0))) ⟨Hb0.out, HX.out⟩ (fun V hV => ?_)
  obtain ⟨hbV, hXV⟩ := hV
  have HbV := Lib.hid hbV
  have HXV := Lib.hid hXV
  have ho0 : V.ownsRow V.heap.size 3 1 (.slice none 0 0) 0 ([] : List Value) := World.ownsRow_nil _ _ _ _
  clear hbV hXV Hb0 HX
  go_wp2
  go_loopw [6, 11] (fun o s wr => ∃ (k : Nat) (A : Option Addr) (cq : Nat), k ≤ cn ∧ o = .slice A (missK l m k).length cq ∧ s = .int .i64 k ∧ Below V.heap.size V wr ∧ wr.ownsRow V.heap.size 3 1 (.slice A (missK l m k).length cq) (missK l m k).length ((missK l m k).map (Value.int .i64))) (fun o s wr => cn - (intOf s).toNat)
  case atStart => exact ⟨0, none, 0, by omega, rfl, rfl, Below.refl _ _, ho0⟩
  case round =>
    obtain ⟨k, A, cq, hk, rfl, rfl, hbr, hor⟩ := hrel
    have hlK := missK_len l m k
    obtain ⟨L, hL⟩ : ∃ L, (missK l m k).length = L := ⟨_, rfl⟩
    rw [hL] at hor hlK ⊢
    have HL := Lib.hid hL
    have Hbr := Lib.hid hbr
    have Hor := Lib.hid hor
    have HXr := Lib.hid ((hbr.block _ (Array.getElem?_eq_some_iff.1 HXV.out).1).trans HXV.out)
    have HMr := Lib.hid ((HM.out.below HbV.out).below hbr)
    clear hL hbr hor ho0
    by_cases hlt : k < cn
    · have ik : (k : Int) < (cn : Int) := by omega
      have hmm := Hm.out
      obtain ⟨ky, hky⟩ := num_key (m := m) (n := (k : Int)) hmm.1 hmm.2 (by omega) (by omega)
      have hh := HF.out m (k : Int) hmm.1 hmm.2 (by omega) (by omega)
      have Hky := Lib.hid hky
      have m0 := box_cells HXr.out 10
      simp only [List.getElem?_toArray, List.getElem?_cons_zero, List.getElem?_cons_succ] at m0
      clear hky hmm
      cases hFk : F (numV m (k : Int)) with
      | none =>
        rw [hFk] at hh
        have Hh := Lib.hid hh.symm
        have HFk := Lib.hid hFk
        clear hh hFk
        simp only [Option.isSome_none] at Hh
        go_upto_region 5 with (at_lookup; refine wpList_look_none num_law rfl (.tmp 16) (.tmp 19) rfl Try.underlying107 (tap_zero _) (numV m (k : Int)) rfl rfl HMr.out Hky.out HFk.out ?_)
        refine wp_name (fun V2 => Below wr.heap.size wr V2) ((Below.refl _ _).alloc (Nat.le_refl _) _) (fun V2 hV => ?_)
        clear m0
        have hov := own_below Hor.out hV
        have Hov := Lib.hid hov
        have HbV2 := Lib.hid (Hbr.out.trans (hV.mono Hbr.out.size))
        clear hov hV
        go_wp2_with (at_builtin; refine wpList_append_src _ rfl (.tmp 25) (.tmp 27) 22 rfl V.heap.size 3 i0 _ 1 8 Try.underlying22 hi0 hz0 hz1 hz2 rfl (by omega) _ L _ rfl (Hov.out.alloc _) (some ⟨V2.heap.size, 0, none⟩) 1 1 [.int .i64 (k : Int)] rfl (src_new V2 [.int .i64 (k : Int)] 3 1 1 rfl) (by simp [Value.oneCell']) (by unfold maxLen; omega) (by omega) (Nat.le_trans HbV2.out.size (by simp)) ?_; intro v1 w1 hown1 hg1 hat1)
        have hb1 : Below V.heap.size V w1 := below_grown (HbV2.out.alloc HbV2.out.size _) hg1 (Nat.le_trans HbV2.out.size (by simp)) (Hov.out.alloc _) (Nat.le_refl _)
        obtain ⟨A1, c1, rfl⟩ := own_form hown1
        have Hb1 := Lib.hid hb1
        have Ho1 := Lib.hid hown1
        clear hown1 hg1 hat1 hb1
        go_roundw
        case rel =>
          have hl1 : (missK l m (k + 1)).length = L + 1 := by
            rw [missK_succ, if_neg (by rw [Hh.out]; decide), List.length_append, HL.out]
            rfl
          have he : (missK l m (k + 1)).map (Value.int .i64) = (missK l m k).map (Value.int .i64) ++ [.int .i64 (k : Int)] := by
            rw [missK_succ, if_neg (by rw [Hh.out]; decide)]
            simp
          exact ⟨k + 1, A1, c1, by omega, by rw [hl1], by go_num, Hb1.out, by rw [hl1, he]; exact Ho1.out⟩
        case measure => simp [intOf]; omega
      | some u =>
        obtain ⟨y, rfl⟩ := HV.out _ _ hFk
        rw [hFk] at hh
        have Hh := Lib.hid hh.symm
        have HFk := Lib.hid hFk
        clear hh hFk
        simp only [Option.isSome_some] at Hh
        go_upto_region 5 with (at_lookup; refine wpList_look_some num_law rfl (.tmp 16) (.tmp 19) rfl Try.underlying107 (tap_zero _) (numV m (k : Int)) rfl rfl HMr.out Hky.out (u := .agg #[.int .i64 y.machine, .int .i64 y.number, .int .i64 y.card, .int .i64 y.ride.day, .int .i64 y.ride.minute, .int .i64 y.ride.low, .int .i64 y.ride.high]) HFk.out ?_)
        refine wp_name (fun V2 => Below wr.heap.size wr V2) ((Below.refl _ _).alloc (Nat.le_refl _) _) (fun V2 hV => ?_)
        clear m0
        have HbV2 := Lib.hid (Hbr.out.trans (hV.mono Hbr.out.size))
        have Hov := Lib.hid (own_below Hor.out hV)
        clear hV
        go_wp2
        go_roundw
        case rel =>
          have he : missK l m (k + 1) = missK l m k := by
            rw [missK_succ, if_pos Hh.out]
            simp
          exact ⟨k + 1, A, cq, by omega, by rw [he, HL.out], by go_num, HbV2.out, by rw [he, HL.out]; exact Hov.out⟩
        case measure => simp [intOf]; omega
    · obtain rfl : k = cn := by omega
      have ik : ¬ (k : Int) < (k : Int) := by omega
      go_wp2
      go_ret
      refine ⟨A, cq, ?_, ?_, HbV.out.trans (Hbr.out.mono HbV.out.size)⟩
      · rw [missL_eq, Int.toNat_natCast, HL.out]
        rfl
      · rw [missL_eq, Int.toNat_natCast, HL.out]
        exact own_mono Hor.out HbV.out.size
end Go.Proofs.Ytmbkpfkkohpnkaa
