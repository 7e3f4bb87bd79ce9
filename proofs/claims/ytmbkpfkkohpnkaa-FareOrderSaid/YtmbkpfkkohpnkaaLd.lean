import Derived.Test.YtmbkpfkkohpnkaaLp
set_option linter.unusedVariables false
set_option linter.unusedSimpArgs false
namespace Go.Proofs.Ytmbkpfkkohpnkaa
open Go Go.Proofs Go.RowKit

def dayK (t : Tar) (l : List Rd) (k : Nat) : Int := sumI ((List.range k).map fun (d : Nat) => priceL t (onDay l d))
theorem dayK_succ (t : Tar) (l : List Rd) (k : Nat) : dayK t l (k + 1) = dayK t l k + priceL t (onDay l k) := by
  unfold dayK
  rw [List.range_succ, List.map_append, sumI_append]
  simp [sumI]
theorem dayK_bd {t : Tar} {l : List Rd} (h : ridesF t l = 0) : ∀ k : Nat, 0 ≤ dayK t l k ∧ dayK t l k ≤ 120000 * (k : Int)
  | 0 => by simp [dayK, sumI]
  | k + 1 => by
    have h1 := dayK_bd h k
    have h2 := price_bd2 (ridesF_sub (m := onDay l k) h fun r hr => (mem_onDay.1 hr).1)
    rw [dayK_succ]
    omega
theorem dayK_seven (t : Tar) (l : List Rd) : dayK t l 7 = sumI (sevenD.map fun d => priceL t (onDay l d)) := rfl
theorem onDay_snoc (l : List Rd) (d : Int) (x : Rd) : onDay (l ++ [x]) d = onDay l d ++ (if x.day = d then [x] else []) := by
  unfold onDay
  rw [List.filter_append]
  by_cases h : x.day = d
  · simp [h]
  · simp [h]
theorem onDay_le (l : List Rd) (d : Int) : (onDay l d).length ≤ l.length := List.length_filter_le _ _
def dearK (t : Tar) (s : Int) (k : Nat) : Bool := (t.weeks.take k).all fun x => decide (s ≤ x)
theorem dearK_succ {t : Tar} {s x : Int} {k : Nat} (h : t.weeks[k]? = some x) : dearK t s (k + 1) = (dearK t s k && decide (s ≤ x)) := by
  unfold dearK
  rw [List.take_add_one, h, List.all_append]
  simp
set_option maxRecDepth 100000 in
set_option maxHeartbeats 4000000 in
theorem Days_law (t : Tar) (a b c v : Value) (l : List Rd) (w : World) (hT : TarAt w a b c t) (hv : RdsAt w v l) :
    Calls Try.prog 11 #[.agg #[.int .i64 t.zones, a, b, c, .int .i64 t.window], v] w (Gives w (.bool true)) := by
  obtain ⟨Av, cv, rfl, _, _⟩ := hv.form
  obtain ⟨A3, c3, rfl, _, _⟩ := hT.weeks.form
  obtain ⟨i0, hi0, hz0, hz1, hz2⟩ := info_parts info_rdsR
  obtain ⟨N, hN⟩ : ∃ N, l.length = N := ⟨_, rfl⟩
  obtain ⟨N3, hN3⟩ : ∃ N3, t.weeks.length = N3 := ⟨_, rfl⟩
  rw [hN] at hv ⊢
  rw [hN3] at hT ⊢
  have HN := Lib.hid hN
  have HN3 := Lib.hid hN3
  have HT := Lib.hid hT
  have Hv := Lib.hid hv
  clear hT hv hN hN3
  go_enter Try.func11, Try.ntmps11
  go_upto_region 1 with (fail)
  refine wp_name (fun W => Below w.heap.size w W ∧ W.heap[w.heap.size]? = some (.cells #[.int .i64 t.zones, a, b, .slice A3 N3 c3, .int .i64 t.window] 24 (0, 0))) ⟨(Below.refl _ _).alloc (Nat.le_refl _) _, heap_alloc_new w _⟩ (fun W0 hW => ?_)
  obtain ⟨hb0, hx0⟩ := hW
  have HB0 := Lib.hid hb0
  have HX0 := Lib.hid hx0
  clear hb0 hx0
  have aq := box_cells HX0.out
  have a0 := aq 0
  have a1 := aq 1
  have a2 := aq 2
  have a3 := aq 3
  have a4 := aq 4
  simp only [List.getElem?_toArray, List.getElem?_cons_zero, List.getElem?_cons_succ] at a0 a1 a2 a3 a4
  clear aq
  go_wp2_with fail
  refine (ready_any t a b _ _ l W0 (HT.out.below HB0.out) (Hv.out.below HB0.out)).mono ?_
  rintro e w1 ⟨rfl, hb1⟩
  clear a0 a1 a2 a3 a4
  have HB1 := Lib.hid (HB0.out.trans (hb1.mono HB0.out.size))
  have HX1 := Lib.hid ((hb1.block _ (Array.getElem?_eq_some_iff.1 HX0.out).1).trans HX0.out)
  clear hb1
  cases hre : readyB t l with
  | false =>
    clear hre
    go_wp2_with fail
    refine (awake_any _).mono ?_
    rintro e wz2 ⟨rfl, hbz2⟩
    go_wp2
    go_ret
    exact ⟨rfl, HB1.out.trans (hbz2.mono HB1.out.size)⟩
  | true =>
    obtain ⟨hth, h20, hz⟩ := ready_iff.1 hre
    rw [HN.out] at h20
    have Hth := Lib.hid hth
    have Hz := Lib.hid hz
    have hw4 : N3 ≤ 8 := by have := (thin_iff.1 hth).2.2; rw [HN3.out] at this; exact this
    clear hre hth hz
    go_wp2
    go_loopw [5, 6] (fun u d wr => ∃ (k : Nat), k ≤ 7 ∧ u = .int .i64 (dayK t l k) ∧ d = .int .i64 k ∧ Below w1.heap.size w1 wr) (fun u d wr => 7 - (intOf d).toNat)
    case atStart => exact ⟨0, by omega, rfl, rfl, Below.refl _ _⟩
    case round =>
      obtain ⟨k, hk, rfl, rfl, hbr⟩ := hrel
      have Hbr := Lib.hid hbr
      clear hbr
      obtain ⟨sk, hsk⟩ : ∃ sk, dayK t l k = sk := ⟨_, rfl⟩
      rw [hsk]
      have hsb := dayK_bd Hz.out k
      rw [hsk] at hsb
      have Hsk := Lib.hid hsk
      clear hsk
      by_cases hlt7 : k < 7
      · have ik : (k : Int) < 7 := by omega
        have HB3 := Lib.hid (HB1.out.trans (Hbr.out.mono HB1.out.size))
        have HX3 := Lib.hid ((Hbr.out.block _ (Array.getElem?_eq_some_iff.1 HX1.out).1).trans HX1.out)
        have ho0 : wr.ownsRow wr.heap.size 68 4 (.slice none 0 0) 0 ([] : List Value) := World.ownsRow_nil _ _ _ _
        obtain ⟨W1, hW1⟩ : ∃ W1, wr = W1 := ⟨_, rfl⟩
        rw [hW1] at HB3 HX3 Hbr ho0 ⊢
        clear hW1
        go_wp2
        go_loopw [7, 8] (fun o s wi => ∃ (i : Nat) (A : Option Addr) (c n : Nat), i ≤ N ∧ n = (onDay (l.take i) k).length ∧ o = .slice A n c ∧ s = .int .i64 i ∧ Below W1.heap.size W1 wi ∧ wi.ownsRow W1.heap.size 68 4 (.slice A n c) n ((onDay (l.take i) k).flatMap rdC)) (fun o s wi => N - (intOf s).toNat)
        case atStart => exact ⟨0, none, 0, 0, by omega, rfl, rfl, rfl, Below.refl _ _, ho0⟩
        case round =>
          obtain ⟨i, A, c0, n, hi, hn, rfl, rfl, hbi, hoi⟩ := hrel
          have Hbi := Lib.hid hbi
          have Hoi := Lib.hid hoi
          have Hn := Lib.hid hn
          have hnl : n ≤ 20 := by
            rw [hn]
            have h1 := onDay_le (l.take i) k
            have h2 : (l.take i).length ≤ l.length := by rw [List.length_take]; omega
            have := HN.out
            omega
          clear hbi hoi hn ho0
          by_cases hlt : i < N
          · obtain ⟨bb, oo, x, rfl, hx, q0, q1, q2, q3, _⟩ := ((Hv.out.below HB3.out).below Hbi.out).at_ (n := N) (k := i) (by have := HN.out; omega)
            have ii : (i : Int) < (N : Int) := by omega
            have htk : onDay (l.take (i + 1)) k = onDay (l.take i) k ++ (if x.day = (k : Int) then [x] else []) := by rw [List.take_add_one, hx, ← onDay_snoc]; rfl
            have Htk := Lib.hid htk
            clear hx htk
            by_cases hdk : x.day = (k : Int)
            · have ed : (x.day == (k : Int)) = true := by simp [hdk]
              rw [if_pos hdk] at Htk
              clear hdk
              go_wp2_with (at_builtin; refine wpList_append_src _ rfl (.tmp 39) (.tmp 44) 25 rfl W1.heap.size 68 i0 _ 4 32 Try.underlying25 hi0 hz0 hz1 hz2 rfl (by omega) _ n _ rfl (Hoi.out.alloc _) (some ⟨wr.heap.size, 0, none⟩) 1 1 (rdC x) rfl (src_new wr (rdC x) 68 1 4 rfl) (by simp [rdC, Value.oneCell']) (by unfold maxLen; omega) (by omega) (Nat.le_trans Hbi.out.size (by simp)) ?_; intro v6 w6 hown6 hg6 hat6)
              have hb6 : Below W1.heap.size W1 w6 := below_grown (Hbi.out.alloc Hbi.out.size _) hg6 (Nat.le_trans Hbi.out.size (by simp)) (Hoi.out.alloc _) (Nat.le_refl _)
              obtain ⟨A6, c6, rfl⟩ := own_form hown6
              have Hb6 := Lib.hid hb6
              have Ho6 := Lib.hid hown6
              clear hown6 hg6 hat6 hb6 q0 q1 q2 q3
              go_roundw
              case rel =>
                refine ⟨i + 1, A6, c6, n + 1, by omega, by rw [Htk.out, List.length_append, ← Hn.out]; rfl, rfl, by go_num, Hb6.out, ?_⟩
                rw [Htk.out, List.flatMap_append]
                simpa using Ho6.out
              case measure => simp [intOf]; omega
            · have ed : (x.day == (k : Int)) = false := by simpa using hdk
              rw [if_neg hdk, List.append_nil] at Htk
              clear hdk
              go_wp2
              go_roundw
              case rel => exact ⟨i + 1, A, c0, n, by omega, by rw [Htk.out]; exact Hn.out, rfl, by go_num, Hbi.out, by rw [Htk.out]; exact Hoi.out⟩
              case measure => simp [intOf]; omega
          · have hie : l.take i = l := List.take_of_length_le (by have := HN.out; omega)
            have ii : ¬ (i : Int) < (N : Int) := by omega
            have hoi := Hoi.out
            have hn := Hn.out
            rw [hie] at hoi hn
            obtain ⟨ys, hys⟩ : ∃ ys, onDay l k = ys := ⟨_, rfl⟩
            rw [hys] at hoi hn
            rw [hn] at hoi
            have hry := rds_own hoi
            have hzy : ridesF t ys = 0 := ridesF_sub Hz.out fun r hr => by rw [← hys] at hr; exact (mem_onDay.1 hr).1
            have Hys := Lib.hid hys
            have Hzy := Lib.hid hzy
            have Hny := Lib.hid hn
            rw [← hn] at hry
            have Hry := Lib.hid hry
            clear hoi hn hry hzy hys hie
            have HB4 := Lib.hid (HB3.out.trans (Hbi.out.mono HB3.out.size))
            have HX4 := Lib.hid ((Hbi.out.block _ (Array.getElem?_eq_some_iff.1 HX3.out).1).trans HX3.out)
            have aq := box_cells HX4.out
            have a0 := aq 0
            have a1 := aq 1
            have a2 := aq 2
            have a3 := aq 3
            have a4 := aq 4
            simp only [List.getElem?_toArray, List.getElem?_cons_zero, List.getElem?_cons_succ] at a0 a1 a2 a3 a4
            clear aq
            go_wp2_with fail
            refine (Tariff_law t a b _ _ (HT.out.below HB4.out) Hth.out).mono ?_
            rintro e xa5 ⟨pa5, pb5, pc5, rfl, hT5, hxa5⟩
            clear a0 a1 a2 a3 a4
            have HB6 := Lib.hid (HB4.out.trans (hxa5.mono HB4.out.size))
            have HX6 := Lib.hid ((hxa5.block _ (Array.getElem?_eq_some_iff.1 HX4.out).1).trans HX4.out)
            have Hry := Lib.hid (Hry.out.below hxa5)
            go_wp2_with fail
            refine (Rides_law _ _ _ (Hry.out) (by have := Hny.out; omega)).mono ?_
            rintro e xb5 ⟨pA5, pk5, rfl, hr5, hxb5⟩
            have hT5 := hT5.below hxb5
            have HB7 := Lib.hid (HB6.out.trans (hxb5.mono HB6.out.size))
            have HX7 := Lib.hid ((hxb5.block _ (Array.getElem?_eq_some_iff.1 HX6.out).1).trans HX6.out)
            have Hry := Lib.hid (Hry.out.below hxb5)
            go_wp2_with fail
            refine (Tickets_any t pa5 pb5 pc5 _ ys _ hT5 hr5 (by have := Hny.out; omega)).mono ?_
            rintro e xc5 ⟨hxc5, _, hg5⟩
            obtain ⟨TA5, Tk5, rfl, _⟩ := hg5 Hzy.out
            obtain ⟨p5, hp5⟩ : ∃ p, (chargeT t (onceL ys)).1 = p := ⟨_, rfl⟩
            rw [hp5]
            generalize (chargeT t (onceL ys)).2.length = tn5
            have Hp5 := Lib.hid hp5
            clear hg5 hp5 hT5 hr5
            have HB8 := Lib.hid (HB7.out.trans (hxc5.mono HB7.out.size))
            have HX8 := Lib.hid ((hxc5.block _ (Array.getElem?_eq_some_iff.1 HX7.out).1).trans HX7.out)
            have Hry := Lib.hid (Hry.out.below hxc5)
            have HXC := Lib.hid hxc5
            clear hxc5
            have hpb := price_bd2 Hzy.out
            have hpe : priceL t ys = p5 := Hp5.out
            rw [hpe] at hpb
            have Hpe := Lib.hid hpe
            have qs : IntKind.i64.wrap (sk + p5) = sk + p5 := IntWalk.i64_in _ (by omega)
            clear hpe
            go_wp2
            go_roundw
            case rel =>
              refine ⟨k + 1, by omega, ?_, by go_num, ?_⟩
              · rw [dayK_succ, Hys.out, Hpe.out, Hsk.out]
              · exact Hbr.out.trans ((Hbi.out.trans ((hxa5.trans ((hxb5.trans (HXC.out.mono hxb5.size)).mono hxa5.size)).mono Hbi.out.size)).mono Hbr.out.size)
            case measure => simp [intOf]; omega
      · have hk7 : k = 7 := by omega
        have ik : ¬ (k : Int) < 7 := by omega
        rw [hk7] at Hsk
        rw [dayK_seven] at Hsk
        have HB9 := Lib.hid (HB1.out.trans (Hbr.out.mono HB1.out.size))
        have HX9 := Lib.hid ((Hbr.out.block _ (Array.getElem?_eq_some_iff.1 HX1.out).1).trans HX1.out)
        have aq := box_cells HX9.out
        have a0 := aq 0
        have a1 := aq 1
        have a2 := aq 2
        have a3 := aq 3
        have a4 := aq 4
        simp only [List.getElem?_toArray, List.getElem?_cons_zero, List.getElem?_cons_succ] at a0 a1 a2 a3 a4
        clear aq
        go_wp2_with fail
        refine (Tariff_law t a b _ _ (HT.out.below HB9.out) Hth.out).mono ?_
        rintro e xa10 ⟨pa10, pb10, pc10, rfl, hT10, hxa10⟩
        clear a0 a1 a2 a3 a4
        have HB11 := Lib.hid (HB9.out.trans (hxa10.mono HB9.out.size))
        have HX11 := Lib.hid ((hxa10.block _ (Array.getElem?_eq_some_iff.1 HX9.out).1).trans HX9.out)
        go_wp2_with fail
        refine (Rides_law _ _ _ (Hv.out.below HB11.out) (by have := HN.out; omega)).mono ?_
        rintro e xb10 ⟨pA10, pk10, rfl, hr10, hxb10⟩
        have hT10 := hT10.below hxb10
        have HB12 := Lib.hid (HB11.out.trans (hxb10.mono HB11.out.size))
        have HX12 := Lib.hid ((hxb10.block _ (Array.getElem?_eq_some_iff.1 HX11.out).1).trans HX11.out)
        go_wp2_with fail
        refine (Tickets_any t pa10 pb10 pc10 _ l _ hT10 hr10 (by have := HN.out; omega)).mono ?_
        rintro e xc10 ⟨hxc10, _, hg10⟩
        obtain ⟨TA10, Tk10, rfl, _⟩ := hg10 Hz.out
        obtain ⟨p10, hp10⟩ : ∃ p, (chargeT t (onceL l)).1 = p := ⟨_, rfl⟩
        rw [hp10]
        generalize (chargeT t (onceL l)).2.length = tn10
        have Hp10 := Lib.hid hp10
        clear hg10 hp10 hT10 hr10
        have HB13 := Lib.hid (HB12.out.trans (hxc10.mono HB12.out.size))
        have HX13 := Lib.hid ((hxc10.block _ (Array.getElem?_eq_some_iff.1 HX12.out).1).trans HX12.out)
        clear hxc10
        have ht := (ridesF_all Hz.out).1
        have hr := (ridesF_all Hz.out).2.2
        have hl := price_least Hz.out
        have hc : ∀ d ∈ sevenD, LeastT t (onDay l d) (priceL t (onDay l d)) := fun d _ => price_least (ridesF_sub Hz.out fun r hr => (mem_onDay.1 hr).1)
        have hpe : priceL t l = p10 := Hp10.out
        rw [hpe] at hl
        have hle := days_sum hr _ hc hl
        rw [Hsk.out] at hle
        have hde := fun hw => days_dear ht hr _ hc hl hw
        rw [Hsk.out] at hde
        have Hde := Lib.hid hde
        clear ht hr hl hc hpe hde
        obtain ⟨W2, hW2⟩ : ∃ W2, xc10 = W2 := ⟨_, rfl⟩
        rw [hW2] at HB13 HX13 ⊢
        clear hW2
        go_wp2
        go_loopw [15, 16] (fun f z wz => ∃ (q : Nat), q ≤ N3 ∧ f = .bool (dearK t sk q) ∧ z = .int .i64 q ∧ Below W2.heap.size W2 wz) (fun f z wz => N3 - (intOf z).toNat)
        case atStart => exact ⟨0, by omega, by simp [dearK], rfl, Below.refl _ _⟩
        case round =>
          obtain ⟨q, hq, rfl, rfl, hbz⟩ := hrel
          have Hbz := Lib.hid hbz
          have HXz := Lib.hid ((hbz.block _ (Array.getElem?_eq_some_iff.1 HX13.out).1).trans HX13.out)
          have aq := box_cells HXz.out
          have a0 := aq 0
          have a1 := aq 1
          have a2 := aq 2
          have a3 := aq 3
          have a4 := aq 4
          simp only [List.getElem?_toArray, List.getElem?_cons_zero, List.getElem?_cons_succ] at a0 a1 a2 a3 a4
          clear aq
          by_cases hltq : q < N3
          · obtain ⟨bw, ow, x, rfl, hx, dx, _⟩ := ((HT.out.below HB13.out).below hbz).weeks.at_ (n := N3) (k := q) (by have := HN3.out; omega)
            have iq : (q : Int) < (N3 : Int) := by omega
            have hsu := dearK_succ (s := sk) hx
            have Hsu := Lib.hid hsu
            clear hx hsu hbz
            cases hdk : dearK t sk q with
            | false =>
              rw [hdk] at Hsu
              have Hdk := Lib.hid hdk
              clear hdk
              go_wp2
              go_roundw
              case rel => exact ⟨q + 1, by omega, by rw [Hsu.out]; rfl, by go_num, Hbz.out⟩
              case measure => simp [intOf]; omega
            | true =>
              rw [hdk] at Hsu
              have Hdk := Lib.hid hdk
              clear hdk
              go_wp2
              go_roundw
              case rel => exact ⟨q + 1, by omega, by rw [Hsu.out]; simp, by go_num, Hbz.out⟩
              case measure => simp [intOf]; omega
          · have iq : ¬ (q : Int) < (N3 : Int) := by omega
            have hall : dearK t sk q = t.weeks.all fun x => decide (sk ≤ x) := by
              unfold dearK
              rw [List.take_of_length_le (by have := HN3.out; omega)]
            clear hbz
            cases hdk : dearK t sk q with
            | false =>
              have Hdk := Lib.hid hdk
              clear hdk hall
              have HB14 := Lib.hid (HB13.out.trans (Hbz.out.mono HB13.out.size))
              have HX14 := Lib.hid ((Hbz.out.block _ (Array.getElem?_eq_some_iff.1 HX13.out).1).trans HX13.out)
              go_wp2_with fail
              refine (awake_any _).mono ?_
              rintro e wz15 ⟨rfl, hbz15⟩
              go_wp2
              go_ret
              exact ⟨rfl, HB14.out.trans (hbz15.mono HB14.out.size)⟩
            | true =>
              have heq : p10 = sk := Hde.out fun x hx => by
                rw [hdk] at hall
                exact of_decide_eq_true (List.all_eq_true.1 hall.symm x hx)
              have eqb : (p10 == sk) = true := by simp [heq]
              have Hdk := Lib.hid hdk
              clear hdk hall heq
              have HB16 := Lib.hid (HB13.out.trans (Hbz.out.mono HB13.out.size))
              have HX16 := Lib.hid ((Hbz.out.block _ (Array.getElem?_eq_some_iff.1 HX13.out).1).trans HX13.out)
              go_wp2_with fail
              refine (awake_any _).mono ?_
              rintro e wz17 ⟨rfl, hbz17⟩
              go_wp2
              go_ret
              exact ⟨rfl, HB16.out.trans (hbz17.mono HB16.out.size)⟩
end Go.Proofs.Ytmbkpfkkohpnkaa
