import Derived.Test.YtmbkpfkkohpnkaaKl
import Derived.Test.YtmbkpfkkohpnkaaDe
set_option linter.unusedVariables false
set_option linter.unusedSimpArgs false
namespace Go.Proofs.Ytmbkpfkkohpnkaa
open Go Go.Proofs Go.RowKit

theorem leastP_che {t : Tar} (ht : tarB t = true) : ∀ (ps : List (Int × Int)) (m : Int), 0 ≤ m → leastP (ps.map (zoneP t 0)) m = ps.foldl (cheF t) m
  | [], m, _ => rfl
  | p :: ps, m, hm => by
    have hb := zoneP_bd ht 0 p
    have he : cheF t m p = if m < 0 ∨ zoneP t 0 p < m then zoneP t 0 p else m := by
      have : singleAt t p = zoneP t 0 p := rfl
      unfold cheF
      rw [this]
      split <;> omega
    simp only [List.map_cons, leastP, List.foldl_cons]
    rw [← he]
    exact leastP_che ht ps _ (by unfold cheF; have : singleAt t p = zoneP t 0 p := rfl; omega)
theorem cheapT_least {t : Tar} (ht : tarB t = true) {lo hi : Int} (h0 : 0 ≤ lo) (h1 : lo ≤ hi) (h2 : hi < t.zones) : cheapT t lo hi = leastK t 0 lo hi := by
  have hm : (lo, hi) ∈ widerL t lo hi := (mem_wider h0).2 ⟨h0, by simp, by simp, h2⟩
  rw [cheapT_eq]
  unfold leastK
  cases hw : widerL t lo hi with
  | nil => rw [hw] at hm; cases hm
  | cons p ps =>
    have hb := zoneP_bd ht 0 p
    have he : cheF t 10000 p = zoneP t 0 p := by
      have : singleAt t p = zoneP t 0 p := rfl
      unfold cheF
      omega
    simp only [List.map_cons, leastP, List.foldl_cons]
    rw [if_pos (.inl (by omega)), he, leastP_che ht ps _ hb.1]
theorem deaK_bd {t : Tar} (ht : tarB t = true) (lo : Nat) {m : Int} (n : Nat) (hm : 0 ≤ m ∧ m ≤ 10000) : 0 ≤ deaK t lo m n ∧ deaK t lo m n ≤ 10000 := by
  have hall : ∀ x ∈ t.singles, 0 ≤ x ∧ x ≤ 10000 := (kindL_ok ht 0).2
  induction n with
  | zero => exact hm
  | succ n ih =>
    have hc : 0 ≤ cheapT t lo ((lo + n : Nat) : Int) ∧ cheapT t lo ((lo + n : Nat) : Int) ≤ 10000 := cheF_bd hall _ 10000 (by omega) (by omega)
    rw [deaK_succ]
    omega
theorem deaN_bd {t : Tar} (ht : tarB t = true) (n : Nat) : 0 ≤ deaN t n ∧ deaN t n ≤ 10000 := by
  induction n with
  | zero => simp [deaN]
  | succ n ih => rw [deaN_succ]; exact deaK_bd ht n _ ih
set_option maxRecDepth 100000 in
set_option maxHeartbeats 2000000 in
theorem Dearest_ref (t : Tar) (a b c : Value) (w : World) (hT : TarAt w a b c t) (ht : tarB t = true) : Calls Try.prog 37 #[.agg #[.int .i64 t.zones, a, b, c, .int .i64 t.window]] w (Gives w (.int .i64 (deaT t))) := by
  obtain ⟨hz1, hz4, _⟩ := tar_pos ht
  obtain ⟨Z, hZ⟩ : ∃ Z : Nat, t.zones = (Z : Int) := ⟨t.zones.toNat, by omega⟩
  have hdt : deaT t = deaN t Z := by unfold deaT deaN; rw [hZ, Int.toNat_natCast]
  rw [hdt]
  have Ht := Lib.hid ht
  have HT := Lib.hid hT
  have Hz := Lib.hid hZ
  have hZ4 : Z ≤ 4 := by omega
  clear hT ht hz1 hz4 hdt hZ
  go_enter Try.func37, Try.ntmps37
  go_upto_region 1 with (fail)
  refine wp_name (fun W => Below w.heap.size w W ∧ W.heap[w.heap.size]? = some (.cells #[.int .i64 t.zones, a, b, c, .int .i64 t.window] 24 (0, 0))) ⟨(Below.refl _ _).alloc (Nat.le_refl _) _, heap_alloc_new w _⟩ (fun W0 hW => ?_)
  obtain ⟨hb0, hx0⟩ := hW
  have HB0 := Lib.hid hb0
  have HX0 := Lib.hid hx0
  clear hb0 hx0
  go_wp2
  go_loopw [3, 4] (fun sm sl wr => ∃ k : Nat, k ≤ Z ∧ sm = .int .i64 (deaN t k) ∧ sl = .int .i64 (k : Int) ∧ Below W0.heap.size W0 wr) (fun sm sl wr => Z - (intOf sl).toNat)
  case atStart => exact ⟨0, by omega, rfl, rfl, Below.refl _ _⟩
  case round =>
    obtain ⟨k, hk, rfl, rfl, hbr⟩ := hrel
    have hxr := (hbr.block _ (Array.getElem?_eq_some_iff.1 HX0.out).1).trans HX0.out
    have aq := box_cells hxr
    have a0 := aq 0
    have a1 := aq 1
    have a2 := aq 2
    have a3 := aq 3
    have a4 := aq 4
    simp only [List.getElem?_toArray, List.getElem?_cons_zero, List.getElem?_cons_succ] at a0 a1 a2 a3 a4
    clear aq
    clear hxr
    rw [Hz.out] at a0
    have Hbr := Lib.hid hbr
    clear hbr
    have hbd := deaN_bd Ht.out k
    by_cases hlt : k < Z
    · have ik : (k : Int) < (Z : Int) := by omega
      have hsu := deaN_succ t k
      have hrow : deaRow t k (deaN t k) = deaK t k (deaN t k) (Z - k) := by unfold deaRow deaK; rw [Hz.out, Int.toNat_natCast]
      rw [hrow] at hsu
      obtain ⟨m, hm⟩ : ∃ m, deaN t k = m := ⟨_, rfl⟩
      rw [hm] at hsu hbd ⊢
      have Hsu := Lib.hid hsu
      clear hsu hrow hm
      go_wp2
      go_loopw [3, 5] (fun sm sh wi => ∃ j : Nat, k + j ≤ Z ∧ sm = .int .i64 (deaK t k m j) ∧ sh = .int .i64 ((k + j : Nat) : Int) ∧ Below W0.heap.size W0 wi) (fun sm sh wi => Z - (intOf sh).toNat)
      case atStart => exact ⟨0, by omega, rfl, rfl, Hbr.out⟩
      case round =>
        obtain ⟨j, hj, rfl, rfl, hbi⟩ := hrel
        have Hxi := Lib.hid ((hbi.block _ (Array.getElem?_eq_some_iff.1 HX0.out).1).trans HX0.out)
        clear a0 a1 a2 a3 a4
        have aq := box_cells Hxi.out
        have a0 := aq 0
        have a1 := aq 1
        have a2 := aq 2
        have a3 := aq 3
        have a4 := aq 4
        simp only [List.getElem?_toArray, List.getElem?_cons_zero, List.getElem?_cons_succ] at a0 a1 a2 a3 a4
        clear aq
        rw [Hz.out] at a0
        have Hbi := Lib.hid hbi
        have Hbw := Lib.hid (HB0.out.trans (hbi.mono HB0.out.size))
        clear hbi
        have hdk := deaK_bd Ht.out k j hbd
        have hss := deaK_succ t k m j
        obtain ⟨h, hh⟩ : ∃ h, k + j = h := ⟨_, rfl⟩
        rw [hh] at hj hss ⊢
        by_cases hjl : h < Z
        · have ih : (h : Int) < (Z : Int) := by omega
          rw [cheapT_least Ht.out (Int.natCast_nonneg _) (by omega) (by rw [Hz.out]; exact ih)] at hss
          have HL := Lib.hid (least_ref t a b c 0 (k : Int) (h : Int) wr (HT.out.below Hbw.out) Ht.out (by omega) ⟨Int.natCast_nonneg _, by omega, by rw [Hz.out]; exact ih⟩)
          obtain ⟨d, hd⟩ : ∃ d, deaK t k m j = d := ⟨_, rfl⟩
          obtain ⟨n, hn⟩ : ∃ n, leastK t 0 (k : Int) (h : Int) = n := ⟨_, rfl⟩
          rw [hn] at HL
          rw [hd, hn] at hss
          rw [hd] at hdk ⊢
          have Hss := Lib.hid hss
          have Hh := Lib.hid hh
          clear hd hn hss hh
          rw [← Hz.out] at a0
          have ih2 : (h : Int) < t.zones := by rw [Hz.out]; exact ih
          clear ih
          go_wp2_with fail
          refine HL.out.mono ?_
          rintro e w5 ⟨rfl, hb5⟩
          have Hb5 := Lib.hid (Hbi.out.trans (hb5.mono Hbi.out.size))
          clear hb5 a0 a1 a2 a3 a4
          by_cases c1 : d < n
          · go_wp2
            go_roundw
            case rel => exact ⟨j + 1, by have := Hh.out; omega, by rw [Hss.out, Int.max_eq_right (by omega)], by have := Hh.out; rw [show k + (j + 1) = h + 1 by omega]; go_num, Hb5.out⟩
            case measure => simp [intOf]; omega
          · go_wp2
            go_roundw
            case rel => exact ⟨j + 1, by have := Hh.out; omega, by rw [Hss.out, Int.max_eq_left (by omega)], by have := Hh.out; rw [show k + (j + 1) = h + 1 by omega]; go_num, Hb5.out⟩
            case measure => simp [intOf]; omega
        · have ih : ¬ (h : Int) < (Z : Int) := by omega
          have hje : j = Z - k := by omega
          rw [hje] at hdk ⊢
          rw [← Hsu.out]
          clear hss
          go_wp2
          go_roundw
          case rel => exact ⟨k + 1, by omega, rfl, by go_num, Hbi.out⟩
          case measure => simp [intOf]; omega
    · have ik : ¬ (k : Int) < (Z : Int) := by omega
      have hke : k = Z := by omega
      rw [hke] at ik ⊢
      go_wp2
      go_ret
      exact ⟨rfl, HB0.out.trans (Hbr.out.mono HB0.out.size)⟩
end Go.Proofs.Ytmbkpfkkohpnkaa
