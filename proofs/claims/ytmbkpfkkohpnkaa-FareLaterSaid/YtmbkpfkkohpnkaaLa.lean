import Derived.Test.YtmbkpfkkohpnkaaLp
set_option linter.unusedVariables false
set_option linter.unusedSimpArgs false
namespace Go.Proofs.Ytmbkpfkkohpnkaa
open Go Go.Proofs Go.RowKit

def laterL (l : List Rd) (d m : Nat) : List Rd := l.map (shiftR ((d % 7 : Nat) : Int) ((m % 300 : Nat) : Int))
set_option maxRecDepth 100000 in
set_option maxHeartbeats 4000000 in
theorem Later_law (t : Tar) (a b c v : Value) (l : List Rd) (n1 n2 : Nat) (w : World) (hT : TarAt w a b c t) (hv : RdsAt w v l) (hn1 : n1 < 256) (hn2 : n2 < 65536) :
    Calls Try.prog 13 #[.agg #[.int .i64 t.zones, a, b, c, .int .i64 t.window], v, .int .u8 (n1 : Int), .int .u16 (n2 : Int)] w (Gives w (.bool true)) := by
  obtain ⟨Av, cv, rfl, _, _⟩ := hv.form
  obtain ⟨i0, hi0, hz0, hz1, hz2⟩ := info_parts info_rdsR
  obtain ⟨N, hN⟩ : ∃ N, l.length = N := ⟨_, rfl⟩
  rw [hN] at hv ⊢
  have HN := Lib.hid hN
  clear hN
  have HT := Lib.hid hT
  have Hv := Lib.hid hv
  clear hT hv
  go_enter Try.func13, Try.ntmps13
  go_upto_region 1 with (fail)
  refine wp_name (fun W => Below w.heap.size w W ∧ W.heap[w.heap.size]? = some (.cells #[.int .i64 t.zones, a, b, c, .int .i64 t.window] 24 (0, 0))) ⟨(Below.refl _ _).alloc (Nat.le_refl _) _, heap_alloc_new w _⟩ (fun W0 hW => ?_)
  obtain ⟨hb0, hx0⟩ := hW
  have HB0 := Lib.hid hb0
  have HX0 := Lib.hid hx0
  clear hb0 hx0
  have aq := box_cells HX0.out
  have a0 := aq 0
  have a1 := aq 1
  have a2 := aq 2
  have a3 := aq 3
  have a4 := aq 4
  simp only [List.getElem?_toArray, List.getElem?_cons_zero, List.getElem?_cons_succ] at a0 a1 a2 a3 a4
  clear aq
  go_wp2_with fail
  refine (ready_any t a b c _ l W0 (HT.out.below HB0.out) (Hv.out.below HB0.out)).mono ?_
  rintro e w1 ⟨rfl, hb1⟩
  clear a0 a1 a2 a3 a4
  have HB1 := Lib.hid (HB0.out.trans (hb1.mono HB0.out.size))
  have HX1 := Lib.hid ((hb1.block _ (Array.getElem?_eq_some_iff.1 HX0.out).1).trans HX0.out)
  clear hb1
  cases hre : readyB t l with
  | false =>
    clear hre
    go_wp2_with fail
    refine (awake_any _).mono ?_
    rintro e wz2 ⟨rfl, hbz2⟩
    go_wp2
    go_ret
    exact ⟨rfl, HB1.out.trans (hbz2.mono HB1.out.size)⟩
  | true =>
    obtain ⟨hth, h20, hz⟩ := ready_iff.1 hre
    rw [HN.out] at h20
    have Hth := Lib.hid hth
    have Hz := Lib.hid hz
    have dv1 : IntKind.i64.wrap (n1 : Int) = (n1 : Int) := IntWalk.i64_in _ (by omega)
    have dv2 : IntKind.i64.wrap (n2 : Int) = (n2 : Int) := IntWalk.i64_in _ (by omega)
    have er1 : Int.tmod (n1 : Int) 7 = ((n1 % 7 : Nat) : Int) := by rw [Int.tmod_eq_emod_of_nonneg (by omega)]; omega
    have er2 : Int.tmod (n2 : Int) 300 = ((n2 % 300 : Nat) : Int) := by rw [Int.tmod_eq_emod_of_nonneg (by omega)]; omega
    obtain ⟨d, hd⟩ : ∃ d, n1 % 7 = d := ⟨_, rfl⟩
    obtain ⟨m, hm⟩ : ∃ m, n2 % 300 = m := ⟨_, rfl⟩
    have hd7 : d < 7 := by rw [← hd]; exact Nat.mod_lt _ (by omega)
    have hm300 : m < 300 := by rw [← hm]; exact Nat.mod_lt _ (by omega)
    rw [hd] at er1
    rw [hm] at er2
    have ed1 : IntKind.i64.wrap (d : Int) = (d : Int) := IntWalk.i64_in _ (by omega)
    have ed2 : IntKind.i64.wrap (m : Int) = (m : Int) := IntWalk.i64_in _ (by omega)
    clear hre hth hz hd hm hn1 hn2
    have ho0 : w1.ownsRow w1.heap.size 68 4 (.slice none 0 0) 0 ([] : List Value) := World.ownsRow_nil _ _ _ _
    go_wp2
    go_loopw [9, 10] (fun o s wr => ∃ (k : Nat) (A : Option Addr) (c : Nat), k ≤ N ∧ o = .slice A k c ∧ s = .int .i64 k ∧ Below w1.heap.size w1 wr ∧ wr.ownsRow w1.heap.size 68 4 (.slice A k c) k (((l.take k).map (shiftR (d : Int) (m : Int))).flatMap rdC)) (fun o s wr => N - (intOf s).toNat)
    case atStart => exact ⟨0, none, 0, by omega, rfl, rfl, Below.refl _ _, ho0⟩
    case round =>
      obtain ⟨k, A, c0, hk, rfl, rfl, hbr, hor⟩ := hrel
      have Hbr := Lib.hid hbr
      have Hor := Lib.hid hor
      clear hbr hor ho0
      by_cases hlt : k < N
      · obtain ⟨bb, oo, x, rfl, hx, q0, q1, q2, q3, _⟩ := ((Hv.out.below HB1.out).below Hbr.out).at_ (n := N) (k := k) (by have := HN.out; omega)
        have ik : (k : Int) < (N : Int) := by omega
        have hxr := (ridesF_all Hz.out).2.2 x (List.mem_of_getElem? hx)
        obtain ⟨xd, xm, _⟩ := rideB_iff.1 hxr
        have htk : (l.take (k + 1)).map (shiftR (d : Int) (m : Int)) = (l.take k).map (shiftR (d : Int) (m : Int)) ++ [shiftR (d : Int) (m : Int) x] := by rw [List.take_add_one, hx]; simp
        have Htk := Lib.hid htk
        have w1' : IntKind.i64.wrap (x.day + (d : Int)) = x.day + (d : Int) := IntWalk.i64_in _ (by omega)
        have w2' : IntKind.i64.wrap (x.minute + (m : Int)) = x.minute + (m : Int) := IntWalk.i64_in _ (by omega)
        clear hx hxr xd xm htk
        go_upto_region 10 with (fail)
        refine wp_name (fun V => Below wr.heap.size wr V ∧ V.heap[wr.heap.size]? = some (.cells #[.int .i64 (x.day + (d : Int)), .int .i64 (x.minute + (m : Int)), .int .i64 x.low, .int .i64 x.high] 68 (0, 0))) ⟨(Below.refl _ _).alloc (Nat.le_refl _) _, heap_alloc_new wr _⟩ (fun V hV => ?_)
        obtain ⟨hbV, hxV⟩ := hV
        have xq := box_cells hxV
        have x0 := xq 0
        have x1 := xq 1
        have x2 := xq 2
        have x3 := xq 3
        simp only [List.getElem?_toArray, List.getElem?_cons_zero, List.getElem?_cons_succ] at x0 x1 x2 x3
        clear xq
        have HbV := Lib.hid (Hbr.out.trans (hbV.mono Hbr.out.size))
        have HoV := Lib.hid (own_below Hor.out hbV)
        clear hbV hxV q0 q1 q2 q3
        go_wp2_with (at_builtin; refine wpList_append_src _ rfl (.tmp 47) (.tmp 49) 25 rfl w1.heap.size 68 i0 _ 4 32 Try.underlying25 hi0 hz0 hz1 hz2 rfl (by omega) _ k _ rfl (HoV.out.alloc _) (some ⟨V.heap.size, 0, none⟩) 1 1 (rdC (shiftR (d : Int) (m : Int) x)) rfl (src_new V (rdC (shiftR (d : Int) (m : Int) x)) 68 1 4 rfl) (by simp [rdC, Value.oneCell']) (by unfold maxLen; omega) (by omega) (Nat.le_trans HbV.out.size (by simp)) ?_; intro v6 w6 hown6 hg6 hat6)
        have hb6 : Below w1.heap.size w1 w6 := below_grown (HbV.out.alloc HbV.out.size _) hg6 (Nat.le_trans HbV.out.size (by simp)) (HoV.out.alloc _) (Nat.le_refl _)
        obtain ⟨A6, c6, rfl⟩ := own_form hown6
        have Hb6 := Lib.hid hb6
        have Ho6 := Lib.hid hown6
        clear hown6 hg6 hat6 hb6 x0 x1 x2 x3
        go_roundw
        case rel =>
          refine ⟨k + 1, A6, c6, by omega, rfl, by go_num, Hb6.out, ?_⟩
          rw [Htk.out, List.flatMap_append]
          simpa using Ho6.out
        case measure => simp [intOf]; omega
      · have hke : k = l.length := by have := HN.out; omega
        have ik : ¬ (k : Int) < (N : Int) := by omega
        have hor := Hor.out
        rw [hke, List.take_length] at hor
        obtain ⟨xs, hxs⟩ : ∃ xs, l.map (shiftR (d : Int) (m : Int)) = xs := ⟨_, rfl⟩
        have hxl : xs.length = l.length := by rw [← hxs]; simp
        rw [hxs, ← hxl] at hor
        have hrx := rds_own hor
        have Hrx := Lib.hid hrx
        have Hxs := Lib.hid hxs
        have Hxl := Lib.hid hxl
        rw [hke]
        rw [HN.out] at Hxl hxl ⊢
        rw [hxl] at Hrx
        clear hor hrx hxs hxl hke ik hlt hk
        have HB3 := Lib.hid (HB1.out.trans (Hbr.out.mono HB1.out.size))
        have HX3 := Lib.hid ((Hbr.out.block _ (Array.getElem?_eq_some_iff.1 HX1.out).1).trans HX1.out)
        have aq := box_cells HX3.out
        have a0 := aq 0
        have a1 := aq 1
        have a2 := aq 2
        have a3 := aq 3
        have a4 := aq 4
        simp only [List.getElem?_toArray, List.getElem?_cons_zero, List.getElem?_cons_succ] at a0 a1 a2 a3 a4
        clear aq
        go_wp2_with fail
        refine (ready_any t a b c _ xs wr (HT.out.below HB3.out) Hrx.out).mono ?_
        rintro e w2 ⟨rfl, hb2⟩
        clear a0 a1 a2 a3 a4
        have HB4 := Lib.hid (HB3.out.trans (hb2.mono HB3.out.size))
        have HX4 := Lib.hid ((hb2.block _ (Array.getElem?_eq_some_iff.1 HX3.out).1).trans HX3.out)
        have Hrx := Lib.hid (Hrx.out.below hb2)
        clear hb2
        cases hre : readyB t xs with
        | false =>
          clear hre
          go_wp2_with fail
          refine (awake_any _).mono ?_
          rintro e wz5 ⟨rfl, hbz5⟩
          go_wp2
          go_ret
          exact ⟨rfl, HB4.out.trans (hbz5.mono HB4.out.size)⟩
        | true =>
          obtain ⟨_, h20', hz2'⟩ := ready_iff.1 hre
          have Hz2 := Lib.hid hz2'
          clear hre hz2'
          have aq := box_cells HX4.out
          have a0 := aq 0
          have a1 := aq 1
          have a2 := aq 2
          have a3 := aq 3
          have a4 := aq 4
          simp only [List.getElem?_toArray, List.getElem?_cons_zero, List.getElem?_cons_succ] at a0 a1 a2 a3 a4
          clear aq
          go_wp2_with fail
          refine (Tariff_law t a b c _ (HT.out.below HB4.out) Hth.out).mono ?_
          rintro e xa6 ⟨pa6, pb6, pc6, rfl, hT6, hxa6⟩
          clear a0 a1 a2 a3 a4
          have HB7 := Lib.hid (HB4.out.trans (hxa6.mono HB4.out.size))
          have HX7 := Lib.hid ((hxa6.block _ (Array.getElem?_eq_some_iff.1 HX4.out).1).trans HX4.out)
          have Hrx := Lib.hid (Hrx.out.below hxa6)
          go_wp2_with fail
          refine (Rides_law _ _ _ (Hv.out.below HB7.out) (by have := HN.out; omega)).mono ?_
          rintro e xb6 ⟨pA6, pk6, rfl, hr6, hxb6⟩
          have hT6 := hT6.below hxb6
          have HB8 := Lib.hid (HB7.out.trans (hxb6.mono HB7.out.size))
          have HX8 := Lib.hid ((hxb6.block _ (Array.getElem?_eq_some_iff.1 HX7.out).1).trans HX7.out)
          have Hrx := Lib.hid (Hrx.out.below hxb6)
          go_wp2_with fail
          refine (Tickets_any t pa6 pb6 pc6 _ l _ hT6 hr6 (by have := HN.out; omega)).mono ?_
          rintro e xc6 ⟨hxc6, _, hg6⟩
          obtain ⟨TA6, Tk6, rfl, _⟩ := hg6 Hz.out
          obtain ⟨p6, hp6⟩ : ∃ p, (chargeT t (onceL l)).1 = p := ⟨_, rfl⟩
          rw [hp6]
          generalize (chargeT t (onceL l)).2.length = tn6
          have Hp6 := Lib.hid hp6
          clear hg6 hp6 hT6 hr6
          have HB9 := Lib.hid (HB8.out.trans (hxc6.mono HB8.out.size))
          have HX9 := Lib.hid ((hxc6.block _ (Array.getElem?_eq_some_iff.1 HX8.out).1).trans HX8.out)
          have Hrx := Lib.hid (Hrx.out.below hxc6)
          clear hxc6
          have aq := box_cells HX9.out
          have a0 := aq 0
          have a1 := aq 1
          have a2 := aq 2
          have a3 := aq 3
          have a4 := aq 4
          simp only [List.getElem?_toArray, List.getElem?_cons_zero, List.getElem?_cons_succ] at a0 a1 a2 a3 a4
          clear aq
          go_wp2_with fail
          refine (Tariff_law t a b c _ (HT.out.below HB9.out) Hth.out).mono ?_
          rintro e xa10 ⟨pa10, pb10, pc10, rfl, hT10, hxa10⟩
          clear a0 a1 a2 a3 a4
          have HB11 := Lib.hid (HB9.out.trans (hxa10.mono HB9.out.size))
          have HX11 := Lib.hid ((hxa10.block _ (Array.getElem?_eq_some_iff.1 HX9.out).1).trans HX9.out)
          have Hrx := Lib.hid (Hrx.out.below hxa10)
          go_wp2_with fail
          refine (Rides_law _ _ _ (Hrx.out) (by have := Hxl.out; omega)).mono ?_
          rintro e xb10 ⟨pA10, pk10, rfl, hr10, hxb10⟩
          have hT10 := hT10.below hxb10
          have HB12 := Lib.hid (HB11.out.trans (hxb10.mono HB11.out.size))
          have HX12 := Lib.hid ((hxb10.block _ (Array.getElem?_eq_some_iff.1 HX11.out).1).trans HX11.out)
          have Hrx := Lib.hid (Hrx.out.below hxb10)
          go_wp2_with fail
          refine (Tickets_any t pa10 pb10 pc10 _ xs _ hT10 hr10 (by have := Hxl.out; omega)).mono ?_
          rintro e xc10 ⟨hxc10, _, hg10⟩
          obtain ⟨TA10, Tk10, rfl, _⟩ := hg10 Hz2.out
          obtain ⟨p10, hp10⟩ : ∃ p, (chargeT t (onceL xs)).1 = p := ⟨_, rfl⟩
          rw [hp10]
          generalize (chargeT t (onceL xs)).2.length = tn10
          have Hp10 := Lib.hid hp10
          clear hg10 hp10 hT10 hr10
          have HB13 := Lib.hid (HB12.out.trans (hxc10.mono HB12.out.size))
          have HX13 := Lib.hid ((hxc10.block _ (Array.getElem?_eq_some_iff.1 HX12.out).1).trans HX12.out)
          have Hrx := Lib.hid (Hrx.out.below hxc10)
          clear hxc10
          have heq : p6 = p10 := by
            rw [← Hp6.out, ← Hp10.out]
            have ha := price_least Hz.out
            have hb := price_least Hz2.out
            rw [← Hxs.out] at hb ⊢
            exact later_same (ridesF_all Hz.out).2.2 (by have := (ridesF_all Hz2.out).2.2; rw [← Hxs.out] at this; exact this) ha hb
          have hpe : (p6 == p10) = true := by simp [heq]
          clear heq
          go_wp2_with fail
          refine (awake_any _).mono ?_
          rintro e wz14 ⟨rfl, hbz14⟩
          go_wp2
          go_ret
          exact ⟨rfl, HB13.out.trans (hbz14.mono HB13.out.size)⟩
end Go.Proofs.Ytmbkpfkkohpnkaa
