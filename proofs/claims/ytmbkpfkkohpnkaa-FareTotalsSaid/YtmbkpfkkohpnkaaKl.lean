import Derived.Test.YtmbkpfkkohpnkaaRa
import Derived.Deep.CutRange
import Derived.Deep.Cut
set_option linter.unusedVariables false
set_option linter.unusedSimpArgs false
namespace Go.Proofs.Ytmbkpfkkohpnkaa
open Go Go.Proofs Go.RowKit

def preV (t : Tar) (K : Nat) (hi : Int) (Z : Nat) (A j : Nat) : Int := leastP (((List.range A).flatMap fun (a : Nat) => (List.range Z).map fun (k : Nat) => zoneP t K ((a : Int), hi + (k : Int))) ++ ((List.range j).map fun (k : Nat) => zoneP t K ((A : Int), hi + (k : Int)))) (-1)
theorem preV_succ (t : Tar) (K : Nat) (hi : Int) (Z A j : Nat) : preV t K hi Z A (j + 1) = if preV t K hi Z A j < 0 ∨ zoneP t K ((A : Int), hi + (j : Int)) < preV t K hi Z A j then zoneP t K ((A : Int), hi + (j : Int)) else preV t K hi Z A j := by
  unfold preV
  rw [List.range_succ, List.map_append, ← List.append_assoc, leastP_append]
  rfl
theorem preV_row (t : Tar) (K : Nat) (hi : Int) (Z A : Nat) : preV t K hi Z A Z = preV t K hi Z (A + 1) 0 := by
  unfold preV
  rw [List.range_succ, List.flatMap_append]
  simp
theorem preV_all (t : Tar) (K : Nat) (lo hi : Int) : preV t K hi (t.zones - hi).toNat (lo + 1).toNat 0 = leastK t K lo hi := by
  unfold preV leastK widerL
  simp [List.map_flatMap]
  rfl
theorem zoneP_bd {t : Tar} (ht : tarB t = true) (K : Nat) (p : Int × Int) : 0 ≤ zoneP t K p ∧ zoneP t K p ≤ 10000 := price_bd ht ⟨K, p.1, p.2, 0, 0⟩
theorem leastP_bd : ∀ {l : List Int} {b : Int}, (∀ x ∈ l, 0 ≤ x ∧ x ≤ 10000) → -1 ≤ b ∧ b ≤ 10000 → -1 ≤ leastP l b ∧ leastP l b ≤ 10000
  | [], b, _, hb => hb
  | n :: l, b, h, hb => by
    have hn := h n List.mem_cons_self
    simp only [leastP]
    refine leastP_bd (fun x hx => h x (List.mem_cons_of_mem _ hx)) ?_
    split <;> omega
theorem preV_bd {t : Tar} (ht : tarB t = true) (K : Nat) (hi : Int) (Z A j : Nat) : -1 ≤ preV t K hi Z A j ∧ preV t K hi Z A j ≤ 10000 := by
  refine leastP_bd (fun x hx => ?_) (by omega)
  rcases List.mem_append.1 hx with h | h
  · obtain ⟨a, _, h⟩ := List.mem_flatMap.1 h
    obtain ⟨k, _, rfl⟩ := List.mem_map.1 h
    exact zoneP_bd ht K _
  · obtain ⟨k, _, rfl⟩ := List.mem_map.1 h
    exact zoneP_bd ht K _
set_option maxRecDepth 100000 in
set_option maxHeartbeats 2000000 in
theorem least_ref (t : Tar) (a b c : Value) (K : Nat) (lo hi : Int) (w : World) (hT : TarAt w a b c t) (ht : tarB t = true) (hK : K ≤ 2) (hz : 0 ≤ lo ∧ lo ≤ hi ∧ hi < t.zones) :
    Calls Try.prog 62 #[.agg #[.int .i64 t.zones, a, b, c, .int .i64 t.window], .int .u8 (K : Int), .int .i64 lo, .int .i64 hi] w (Gives w (.int .i64 (leastK t K lo hi))) := by
  have hzz := tar_pos ht
  obtain ⟨L, rfl⟩ : ∃ L : Nat, lo = (L : Int) := ⟨lo.toNat, by omega⟩
  obtain ⟨Hh, rfl⟩ : ∃ Hh : Nat, hi = (Hh : Int) := ⟨hi.toNat, by omega⟩
  obtain ⟨Z, hZ⟩ : ∃ Z : Nat, (t.zones - (Hh : Int)).toNat = Z := ⟨_, rfl⟩
  have hzt : t.zones = ((Hh + Z : Nat) : Int) := by omega
  have hall := preV_all t K (L : Int) (Hh : Int)
  rw [hZ, show ((L : Int) + 1).toNat = L + 1 by omega] at hall
  have hL4 : L ≤ Hh ∧ Hh + Z ≤ 4 ∧ 1 ≤ Z := by omega
  have Hall := Lib.hid hall
  have Ht := Lib.hid ht
  have HT := Lib.hid hT
  have Hzt := Lib.hid hzt
  clear hall hT ht hzz hZ hzt hz
  go_enter Try.func62, Try.ntmps62
  go_upto_region 1 with (fail)
  refine wp_name (fun W => Below w.heap.size w W ∧ W.heap[w.heap.size]? = some (.cells #[.int .i64 t.zones, a, b, c, .int .i64 t.window] 24 (0, 0))) ⟨(Below.refl _ _).alloc (Nat.le_refl _) _, heap_alloc_new w _⟩ (fun W0 hW => ?_)
  obtain ⟨hb0, hx0⟩ := hW
  have HB0 := Lib.hid hb0
  have HX0 := Lib.hid hx0
  clear hb0 hx0
  go_wp2
  go_loopw [9, 10] (fun sb sa wr => ∃ A : Nat, A ≤ L + 1 ∧ sb = .int .i64 (preV t K (Hh : Int) Z A 0) ∧ sa = .int .i64 A ∧ Below W0.heap.size W0 wr) (fun sb sa wr => L + 1 - (intOf sa).toNat)
  case atStart => exact ⟨0, by omega, by rfl, rfl, Below.refl _ _⟩
  case round =>
    obtain ⟨A, hA, rfl, rfl, hbr⟩ := hrel
    have Hbr := Lib.hid hbr
    clear hbr
    by_cases hlt : A ≤ L
    · have iA : (A : Int) ≤ (L : Int) := by omega
      obtain ⟨v0, hv0⟩ : ∃ v0, preV t K (Hh : Int) Z A 0 = v0 := ⟨_, rfl⟩
      rw [hv0]
      have Hv0 := Lib.hid hv0
      clear hv0
      obtain ⟨W1, hW1⟩ : ∃ W1, wr = W1 := ⟨_, rfl⟩
      rw [hW1] at Hbr ⊢
      clear hW1
      go_wp2
      go_loopw [9, 11] (fun sb sj wi => ∃ j : Nat, j ≤ Z ∧ sb = .int .i64 (preV t K (Hh : Int) Z A j) ∧ sj = .int .i64 ((Hh + j : Nat) : Int) ∧ Below W0.heap.size W0 wi) (fun sb sj wi => Hh + Z - (intOf sj).toNat)
      case atStart => exact ⟨0, by omega, by rw [Hv0.out], rfl, Hbr.out⟩
      case round =>
        obtain ⟨j, hj, rfl, rfl, hbi⟩ := hrel
        have Hbi := Lib.hid hbi
        have Hbw := Lib.hid (HB0.out.trans (hbi.mono HB0.out.size))
        have Hxi := Lib.hid ((hbi.block _ (Array.getElem?_eq_some_iff.1 HX0.out).1).trans HX0.out)
        clear hbi
        have aq := box_cells Hxi.out
        have a0 := aq 0
        have a1 := aq 1
        have a2 := aq 2
        have a3 := aq 3
        have a4 := aq 4
        simp only [List.getElem?_toArray, List.getElem?_cons_zero, List.getElem?_cons_succ] at a0 a1 a2 a3 a4
        clear aq
        rw [Hzt.out] at a0
        have hbd := preV_bd Ht.out K (Hh : Int) Z A j
        have hsu := preV_succ t K (Hh : Int) Z A j
        obtain ⟨vj, hvj⟩ : ∃ vj, preV t K (Hh : Int) Z A j = vj := ⟨_, rfl⟩
        rw [hvj] at hbd hsu ⊢
        by_cases hjl : j < Z
        · have ij : ((Hh + j : Nat) : Int) < ((Hh + Z : Nat) : Int) := by omega
          obtain ⟨n, hn⟩ : ∃ n, zoneP t K ((A : Int), (Hh : Int) + (j : Int)) = n := ⟨_, rfl⟩
          rw [hn] at hsu
          have hpn : priceT t ⟨K, (A : Int), ((Hh + j : Nat) : Int), 0, 0⟩ = n := by rw [← hn, zoneP_price]; rfl
          have Hpn := Lib.hid hpn
          have Hsu := Lib.hid hsu
          have hzz : t.zones = ((Hh + Z : Nat) : Int) := Hzt.out
          obtain ⟨hj', hhj⟩ : ∃ x : Nat, Hh + j = x := ⟨_, rfl⟩
          obtain ⟨hz', hhz⟩ : ∃ x : Nat, Hh + Z = x := ⟨_, rfl⟩
          have iaj : (A : Int) ≤ (hj' : Int) := by omega
          rw [hhj] at ij Hpn ⊢
          rw [hhz] at ij a0 hzz
          rw [← hzz] at a0
          have ij2 : (hj' : Int) < t.zones := by rw [hzz]; exact ij
          clear hpn hsu hvj hn ij hzz
          go_wp2_with fail
          refine (Price_ref t a b c ⟨K, (A : Int), (hj' : Int), 0, 0⟩ _ (HT.out.below Hbw.out) Ht.out (Int.natCast_nonneg _) iaj ij2).mono ?_
          rintro e w5 ⟨rfl, hb5⟩
          rw [Hpn.out]
          have Hb5 := Lib.hid (Hbi.out.trans (hb5.mono Hbi.out.size))
          clear hb5 a0 a1 a2 a3 a4
          by_cases h1 : vj < 0
          · have d1 : decide (vj < 0) = true := decide_eq_true h1
            rw [if_pos (.inl h1)] at Hsu
            go_wp2
            go_roundw
            case rel => exact ⟨j + 1, by omega, by rw [Hsu.out], by rw [← hhj]; go_num, Hb5.out⟩
            case measure => simp [intOf]; omega
          · have d1 : decide (vj < 0) = false := decide_eq_false h1
            by_cases h2 : n < vj
            · have d2 : decide (n < vj) = true := decide_eq_true h2
              rw [if_pos (.inr h2)] at Hsu
              go_wp2
              go_roundw
              case rel => exact ⟨j + 1, by omega, by rw [Hsu.out], by rw [← hhj]; go_num, Hb5.out⟩
              case measure => simp [intOf]; omega
            · have d2 : decide (n < vj) = false := decide_eq_false h2
              rw [if_neg (by omega)] at Hsu
              go_wp2
              go_roundw
              case rel => exact ⟨j + 1, by omega, by rw [Hsu.out], by rw [← hhj]; go_num, Hb5.out⟩
              case measure => simp [intOf]; omega
        · have hjz : j = Z := by omega
          have ij : ¬ ((Hh + j : Nat) : Int) < t.zones := by have := Hzt.out; omega
          have hrow := preV_row t K (Hh : Int) Z A
          rw [hjz] at hvj
          rw [hvj] at hrow
          have Hrow := Lib.hid hrow
          rw [← Hzt.out] at a0
          obtain ⟨hj', hhj⟩ : ∃ x : Nat, Hh + j = x := ⟨_, rfl⟩
          rw [hhj] at ij ⊢
          clear hrow hvj hsu
          go_wp2
          go_roundw
          case rel => exact ⟨A + 1, by omega, by rw [Hrow.out], by go_num, Hbi.out⟩
          case measure => simp [intOf]; omega
    · have iA : ¬ (A : Int) ≤ (L : Int) := by omega
      have hAe : A = L + 1 := by omega
      rw [hAe, Hall.out]
      subst hAe
      go_wp2
      go_ret
      exact ⟨rfl, HB0.out.trans (Hbr.out.mono HB0.out.size)⟩
end Go.Proofs.Ytmbkpfkkohpnkaa
