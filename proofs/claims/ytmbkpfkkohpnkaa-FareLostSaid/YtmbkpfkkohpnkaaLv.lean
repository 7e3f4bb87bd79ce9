import Derived.Test.YtmbkpfkkohpnkaaPl
import Derived.Test.YtmbkpfkkohpnkaaRs
set_option linter.unusedVariables false
set_option linter.unusedSimpArgs false
namespace Go.Proofs.Ytmbkpfkkohpnkaa
open Go Go.Proofs Go.RowKit

theorem info_tpsL : (Try.prog.info? 75).map (fun i => (i.zero, i.size, i.bytes)) = some (some (.agg #[.int .i64 0, .int .i64 0, .int .i64 0, .int .i64 0, .int .i64 0, .int .i64 0, .int .i64 0]), 7, 56) := by kernel_rfl
theorem lost_bit (x k : Nat) : ((((x : Int) / 2 ^ k).tmod 2) == 0) = !x.testBit k := by
  have h : ((x : Int) / 2 ^ k) = ((x / 2 ^ k : Nat) : Int) := by push_cast; rfl
  rw [h, Nat.testBit_eq_decide_div_mod_eq]
  generalize x / 2 ^ k = y
  rw [Int.tmod_eq_emod_of_nonneg (by omega), Bool.eq_iff_iff]
  simp only [beq_iff_eq, Bool.not_eq_true', decide_eq_false_iff_not]
  omega
theorem blk_neL {g N k X : Nat} (h : g ≠ X) : (Value.slice (some ⟨g, 0, none⟩) N k).ownBlock = none ∨ (Value.slice (some ⟨g, 0, none⟩) N k).ownBlock ≠ some X := .inr (fun e => h (Option.some.inj e))
theorem own_ne {w : World} {base : Nat} {e : TypeId} {size n : Nat} {v : Value} {xs : List Value} (h : w.ownsRow base e size v n xs) {X : Nat} (hX : w.heap.size ≤ X) : v.ownBlock = none ∨ v.ownBlock ≠ some X := .inr (fun e => by have := (h.lt X e).2; omega)
theorem own_ne2 {w : World} {base : Nat} {e : TypeId} {size n : Nat} {v : Value} {xs : List Value} (h : w.ownsRow base e size v n xs) {X : Nat} (hX : w.heap.size ≤ X) : some X ≠ v.ownBlock := fun e => by have := (h.lt X e.symm).2; omega
/-- Two rows lie apart. -/
def Dis (u v : Value) : Prop := ∀ g, u.ownBlock = some g → v.ownBlock ≠ some g
theorem Dis.left {u v : Value} (h : Dis u v) : u.ownBlock = none ∨ u.ownBlock ≠ v.ownBlock := by
  cases e : u.ownBlock with
  | none => exact .inl rfl
  | some g => exact .inr fun e2 => h g e e2.symm
theorem Dis.right {u v : Value} (h : Dis u v) : v.ownBlock = none ∨ v.ownBlock ≠ u.ownBlock := by
  cases e : v.ownBlock with
  | none => exact .inl rfl
  | some g => exact .inr fun e2 => h g e2.symm e
theorem Dis.grow {u u' v : Value} {w : World} {base : Nat} {e : TypeId} {size n : Nat} {xs : List Value} (h : Dis u v) (hv : w.ownsRow base e size v n xs) {X : Nat} (hX : w.heap.size ≤ X) (h' : u'.ownBlock = u.ownBlock ∨ u'.ownBlock = some X) : Dis u' v := fun g hg hvg => by
  rcases h' with h' | h'
  · exact h g (h' ▸ hg) hvg
  · rw [hg] at h'
    cases h'
    have := (hv.lt _ hvg).2
    omega
theorem Dis.growR {u v v' : Value} {w : World} {base : Nat} {e : TypeId} {size n : Nat} {xs : List Value} (h : Dis u v) (hu : w.ownsRow base e size u n xs) {X : Nat} (hX : w.heap.size ≤ X) (h' : v'.ownBlock = v.ownBlock ∨ v'.ownBlock = some X) : Dis u v' := fun g hg hvg => by
  rcases h' with h' | h'
  · exact h g hg (h' ▸ hvg)
  · rw [hvg] at h'
    cases h'
    have := (hu.lt _ hg).2
    omega
def dueK (l : List Int) (k : Nat) : Int := sumI (l.take k)
theorem dueK_succ {l : List Int} {k : Nat} {x : Int} (h : l[k]? = some x) : dueK l (k + 1) = dueK l k + x := by
  unfold dueK
  rw [List.take_add_one, h, sumI_append]
  simp [sumI]
set_option maxRecDepth 100000 in
set_option maxHeartbeats 8000000 in
theorem Lost_law (t : Tar) (a b c v : Value) (l : List Tp) (nb : Nat) (w : World) (hT : TarAt w a b c t) (hv : TpsAt w v l) (hnb : nb < 18446744073709551616) :
    Calls Try.prog 8 #[.agg #[.int .i64 t.zones, a, b, c, .int .i64 t.window], v, .int .u64 (nb : Int)] w (Gives w (.bool true)) := by
  obtain ⟨Av, cv, rfl, _, _⟩ := hv.form
  obtain ⟨i0, hi0, hz0, hz1, hz2⟩ := info_parts info_tpsL
  obtain ⟨N, hN⟩ : ∃ N, l.length = N := ⟨_, rfl⟩
  rw [hN] at hv ⊢
  have HN := Lib.hid hN
  have HT := Lib.hid hT
  have Hv := Lib.hid hv
  clear hT hv hN
  go_enter Try.func8, Try.ntmps8
  go_upto_region 1 with (fail)
  refine wp_name (fun W => Below w.heap.size w W ∧ W.heap[w.heap.size]? = some (.cells #[.int .i64 t.zones, a, b, c, .int .i64 t.window] 24 (0, 0))) ⟨(Below.refl _ _).alloc (Nat.le_refl _) _, heap_alloc_new w _⟩ (fun W0 hW => ?_)
  obtain ⟨hb0, hx0⟩ := hW
  have HB0 := Lib.hid hb0
  have HX0 := Lib.hid hx0
  clear hb0 hx0
  have aq := box_cells HX0.out
  have a0 := aq 0
  have a1 := aq 1
  have a2 := aq 2
  have a3 := aq 3
  have a4 := aq 4
  simp only [List.getElem?_toArray, List.getElem?_cons_zero, List.getElem?_cons_succ] at a0 a1 a2 a3 a4
  clear aq
  go_wp2_with fail
  refine (Thin_any t a b c W0 (HT.out.below HB0.out)).mono ?_
  rintro e w1 ⟨rfl, hb1⟩
  clear a0 a1 a2 a3 a4
  have HB1 := Lib.hid (HB0.out.trans (hb1.mono HB0.out.size))
  have HX1 := Lib.hid ((hb1.block _ (Array.getElem?_eq_some_iff.1 HX0.out).1).trans HX0.out)
  clear hb1
  cases hth : thinB t with
  | false =>
    clear hth
    go_wp2_with fail
    refine (awake_any _).mono ?_
    rintro e wz2 ⟨rfl, hbz2⟩
    go_wp2
    go_ret
    exact ⟨rfl, HB1.out.trans (hbz2.mono HB1.out.size)⟩
  | true =>
    have Hth := Lib.hid hth
    clear hth
    by_cases h45 : 45 < N
    · have i45 : (45 : Int) < (N : Int) := by omega
      clear h45
      go_wp2_with fail
      refine (awake_any _).mono ?_
      rintro e wz3 ⟨rfl, hbz3⟩
      go_wp2
      go_ret
      exact ⟨rfl, HB1.out.trans (hbz3.mono HB1.out.size)⟩
    have i45 : ¬ (45 : Int) < (N : Int) := by omega
    have hN45 : N ≤ 45 := by omega
    clear h45
    go_upto_region 4 with (fail)
    refine wp_name (fun V => Below w1.heap.size w1 V ∧ V.ownsRow w1.heap.size 3 1 (.slice (some ⟨w1.heap.size, 0, none⟩) 4 4) 4 ([0, 0, 0, 0].map (.int .i64))) ⟨(Below.refl _ _).alloc (Nat.le_refl _) _, World.ownsRow_lit w1 #[.int .i64 0, .int .i64 0, .int .i64 0, .int .i64 0] 4 (Nat.le_refl _) (by simp [maxLen]) (by simp)⟩ (fun V0 hV => ?_)
    obtain ⟨hbV, hcV⟩ := hV
    obtain ⟨G, hG⟩ : ∃ G, w1.heap.size = G := ⟨_, rfl⟩
    have hcV' : V0.ownsRow w1.heap.size 3 1 (.slice (some ⟨G, 0, none⟩) 4 4) 4 ([0, 0, 0, 0].map (.int .i64)) := by rw [← hG]; exact hcV
    have HbV := Lib.hid hbV
    have HcV := Lib.hid hcV'
    have Hn1 : V0.ownsRow w1.heap.size 75 7 (.slice none 0 0) 0 ([].flatMap tpC) := World.ownsRow_nil _ _ _ _
    have HGe := Lib.hid hG
    rw [hG]
    clear hbV hcV hcV' hG
    go_wp2
    go_loopw [8, 9, 10] (fun sa sk si wr => ∃ (k : Nat) (X K L : List Tp) (cs : List Int) (Aa Ak : Option Addr) (ca ck nk : Nat), k ≤ N ∧ Lost k X K L cs ∧ nk = K.length ∧ sa = .slice Aa k ca ∧ sk = .slice Ak nk ck ∧ si = .int .i64 k ∧ Below w1.heap.size w1 wr ∧ wr.ownsRow w1.heap.size 3 1 (.slice (some ⟨G, 0, none⟩) 4 4) 4 (cs.map (.int .i64)) ∧ wr.ownsRow w1.heap.size 75 7 (.slice Aa k ca) k (X.flatMap tpC) ∧ wr.ownsRow w1.heap.size 75 7 (.slice Ak nk ck) nk (K.flatMap tpC) ∧ Dis (.slice Aa k ca) (.slice Ak nk ck)) (fun sa sk si wr => N - (intOf si).toNat)
    case atStart => exact ⟨0, [], [], [], [0, 0, 0, 0], none, none, 0, 0, 0, by omega, lost_start, rfl, rfl, rfl, rfl, HbV.out, HcV.out, Hn1, Hn1, fun g hg => by cases hg⟩
    case round =>
      obtain ⟨k, X, K, L, cs, Aa, Ak, ca, ck, nk, hk, hL, hnk, rfl, rfl, rfl, hbr, hc, ha, hkn, hdis⟩ := hrel
      have Hbr := Lib.hid hbr
      have Hc := Lib.hid hc
      have Ha := Lib.hid ha
      have Hk := Lib.hid hkn
      have Hdis := Lib.hid hdis
      have HL := Lib.hid hL
      have Hnk := Lib.hid hnk
      have hnk45 : nk ≤ 45 := by have := hL.klen; omega
      clear hbr hc ha hkn hdis hL hnk HbV HcV Hn1
      by_cases hlt : k < N
      · obtain ⟨bb, oo, x, rfl, hx, q0, q1, q2, q3, q4, q5, q6, _⟩ := ((Hv.out.below HB1.out).below Hbr.out).at_ (n := N) (k := k) (by have := HN.out; omega)
        have ik : (k : Int) < (N : Int) := by omega
        clear hx
        go_upto_region 9 with (fail)
        refine wp_name (fun V => Below wr.heap.size wr V ∧ V.heap[wr.heap.size]? = some (.cells #[.int .i64 x.machine, .int .i64 x.number, .int .i64 x.card, .int .i64 x.ride.day, .int .i64 x.ride.minute, .int .i64 x.ride.low, .int .i64 x.ride.high] 75 (0, 0)) ∧ V.heap.size = wr.heap.size + 1) ⟨(Below.refl _ _).alloc (Nat.le_refl _) _, heap_alloc_new wr _, by simp⟩ (fun V hV => ?_)
        obtain ⟨hbV, hxV, hsV⟩ := hV
        have HbV := Lib.hid (Hbr.out.trans (hbV.mono Hbr.out.size))
        have HcV := Lib.hid (own_below Hc.out hbV)
        have HaV := Lib.hid (own_below Ha.out hbV)
        have HkV := Lib.hid (own_below Hk.out hbV)
        have hGX : G ≠ wr.heap.size := by have := (Hc.out.lt G rfl).2; omega
        have HnA := Lib.hid (own_ne Ha.out (Nat.le_refl _))
        have HnK := Lib.hid (own_ne Hk.out (Nat.le_refl _))
        have HnA2 := Lib.hid (own_ne2 Ha.out (Nat.le_refl _))
        have HnK2 := Lib.hid (own_ne2 Hk.out (Nat.le_refl _))
        have hBX : w1.heap.size ≤ wr.heap.size := Hbr.out.size
        generalize wr.heap.size = XB at *
        have HxV := Lib.hid hxV
        clear hbV hxV q0 q1 q2 q3 q4 q5 q6 Hbr Hc Ha Hk
        have xq := box_cells HxV.out
        have x0 := xq 0
        have x1 := xq 1
        have x2 := xq 2
        have x3 := xq 3
        have x4 := xq 4
        have x5 := xq 5
        have x6 := xq 6
        simp only [List.getElem?_toArray, List.getElem?_cons_zero, List.getElem?_cons_succ] at x0 x1 x2 x3 x4 x5 x6
        clear xq
        go_wp2_with fail
        refine (In_any x.machine 0 3 _).mono ?_
        rintro e w5 ⟨rfl, hb5⟩
        have Hb5 := Lib.hid (HbV.out.trans (hb5.mono HbV.out.size))
        have Hc5 := Lib.hid (own_below HcV.out hb5)
        have Ha5 := Lib.hid (own_below HaV.out hb5)
        have Hk5 := Lib.hid (own_below HkV.out hb5)
        have Hx5 := Lib.hid ((hb5.block _ (by rw [hsV]; omega)).trans HxV.out)
        clear hb5 HbV HcV HaV HkV HxV x0 x1 x2 x3 x4 x5 x6 hsV
        cases hin : inB x.machine 0 3 with
        | false =>
          clear hin
          have HB4 := Lib.hid (HB1.out.trans (Hb5.out.mono HB1.out.size))
          have HX4 := Lib.hid ((Hb5.out.block _ (Array.getElem?_eq_some_iff.1 HX1.out).1).trans HX1.out)
          go_wp2_with fail
          refine (awake_any _).mono ?_
          rintro e wz5 ⟨rfl, hbz5⟩
          go_wp2
          go_ret
          exact ⟨rfl, HB4.out.trans (hbz5.mono HB4.out.size)⟩
        | true =>
          have hmach := inB_iff.1 hin
          obtain ⟨mn, hmn⟩ : ∃ mn : Nat, x.machine = (mn : Int) := ⟨x.machine.toNat, by omega⟩
          have hm4 : mn < 4 := by omega
          have im4 : (mn : Int) < 4 := by omega
          have h4 := HL.out.nx.four
          obtain ⟨cn, hcn⟩ : ∃ cn, cs[mn]? = some cn := ⟨_, List.getElem?_eq_getElem (by omega)⟩
          have hce : cntAt cs x.machine = cn := by unfold cntAt; rw [hmn, Int.toNat_natCast, hcn]; rfl
          have hcb := cnt_le HL.out.cnt x.machine
          rw [hce] at hcb
          have hcw : IntKind.i64.wrap (cn + 1) = cn + 1 := IntWalk.i64_in _ (by omega)
          have hcell : w5.cell? ⟨G, mn, none⟩ = some (.int .i64 cn) := (Hc5.out.cellAt mn (by omega)).trans (show (cs.map (Value.int .i64))[mn]? = some (.int .i64 cn) by rw [List.getElem?_map, hcn]; rfl)
          obtain ⟨y, hy⟩ : ∃ y : Tp, ({ x with number := cn } : Tp) = y := ⟨_, rfl⟩
          have hyn : y.number = cntAt cs y.machine := by rw [← hy]; exact hce.symm
          have hym : 0 ≤ y.machine ∧ y.machine ≤ 3 := by rw [← hy]; exact hmach
          have hset : cs.set y.machine.toNat (y.number + 1) = cs.set mn (cn + 1) := by rw [← hy]; simp only [hmn, Int.toNat_natCast]
          have Hkn := Lib.hid (HL.out.known hym hyn)
          have Hlo := Lib.hid (HL.out.lost hym hyn)
          rw [hset] at Hkn Hlo
          have Hy := Lib.hid hy
          have hxm := hmn
          have HcnH := Lib.hid hcn
          clear hin hmach hcn hce hcb hyn hym hset hy hmn
          have xq := box_cells Hx5.out
          have x0 := xq 0
          have x1 := xq 1
          have x2 := xq 2
          have x3 := xq 3
          have x4 := xq 4
          have x5 := xq 5
          have x6 := xq 6
          simp only [List.getElem?_toArray, List.getElem?_cons_zero, List.getElem?_cons_succ] at x0 x1 x2 x3 x4 x5 x6
          clear xq
          rw [hxm] at x0
          have xf := box_frozen Hx5.out
          go_upto_region 12 with (fail)
          have gr := grown_set (World.grownBy.refl w5 (some XB)) 1 (.int .i64 cn)
          have hY1 := blk_set (o := 1) Hx5.out (.int .i64 cn)
          simp only [List.setIfInBounds_toArray, List.set_cons_succ, List.set_cons_zero] at hY1
          refine wp_name (fun W => Below w1.heap.size w1 W ∧ W.heap[XB]? = some (.cells #[.int .i64 y.machine, .int .i64 y.number, .int .i64 y.card, .int .i64 y.ride.day, .int .i64 y.ride.minute, .int .i64 y.ride.low, .int .i64 y.ride.high] 75 (0, 0)) ∧ W.ownsRow w1.heap.size 3 1 (.slice (some ⟨G, 0, none⟩) 4 4) 4 (cs.map (.int .i64)) ∧ W.ownsRow w1.heap.size 75 7 (.slice Aa k ca) k (X.flatMap tpC) ∧ W.ownsRow w1.heap.size 75 7 (.slice Ak nk ck) nk (K.flatMap tpC)) ⟨Hb5.out.setCell (p := ⟨XB, 1, none⟩) hBX _, by rw [← Hy.out]; exact hY1, Hc5.out.kept gr (blk_neL hGX), Ha5.out.kept gr HnA.out, Hk5.out.kept gr HnK.out⟩ (fun w6 h6 => ?_)
          obtain ⟨h61, h62, h63, h64, h65⟩ := h6
          have Hb6 := Lib.hid h61
          have Hx6 := Lib.hid h62
          have Hc6 := Lib.hid h63
          have Ha6 := Lib.hid h64
          have Hk6 := Lib.hid h65
          clear h61 h62 h63 h64 h65 gr hY1 xf x0 x1 x2 x3 x4 x5 x6 hcell Hx5 Hc5 Ha5 Hk5 Hb5
          have hym : y.machine = (mn : Int) := by rw [← Hy.out]; exact hxm
          have xq := box_cells Hx6.out
          have x0 := xq 0
          have x1 := xq 1
          have x2 := xq 2
          have x3 := xq 3
          have x4 := xq 4
          have x5 := xq 5
          have x6 := xq 6
          simp only [List.getElem?_toArray, List.getElem?_cons_zero, List.getElem?_cons_succ] at x0 x1 x2 x3 x4 x5 x6
          clear xq
          have z0 := x0
          rw [hym] at z0
          have hcell : w6.cell? ⟨G, mn, none⟩ = some (.int .i64 cn) := (Hc6.out.cellAt mn (by omega)).trans (show (cs.map (Value.int .i64))[mn]? = some (.int .i64 cn) by rw [List.getElem?_map, HcnH.out]; rfl)
          have fz := fun o => Hc6.out.frozenAt o
          clear x0
          go_upto_region 13 with (fail)
          have hst := Hc6.out.stored mn (.int .i64 (cn + 1))
          have hst1 := hst.1
          rw [← List.map_set] at hst1
          have hGB : w1.heap.size ≤ G := by have := HGe.out; omega
          refine wp_name (fun W => Below w1.heap.size w1 W ∧ W.heap[XB]? = some (.cells #[.int .i64 y.machine, .int .i64 y.number, .int .i64 y.card, .int .i64 y.ride.day, .int .i64 y.ride.minute, .int .i64 y.ride.low, .int .i64 y.ride.high] 75 (0, 0)) ∧ W.ownsRow w1.heap.size 3 1 (.slice (some ⟨G, 0, none⟩) 4 4) 4 ((cs.set mn (cn + 1)).map (.int .i64)) ∧ W.ownsRow w1.heap.size 75 7 (.slice Aa k ca) k (X.flatMap tpC) ∧ W.ownsRow w1.heap.size 75 7 (.slice Ak nk ck) nk (K.flatMap tpC)) ⟨Hb6.out.setCell (p := ⟨G, mn, none⟩) hGB _, blk_other Hx6.out (Ne.symm hGX) _, hst1, Ha6.out.kept hst.2 (own_apart Ha6.out Hc6.out (by decide)), Hk6.out.kept hst.2 (own_apart Hk6.out Hc6.out (by decide))⟩ (fun w7 h7 => ?_)
          obtain ⟨h71, h72, h73, h74, h75⟩ := h7
          have Hb7 := Lib.hid h71
          have Hx7 := Lib.hid h72
          have Hc7 := Lib.hid h73
          have Ha7 := Lib.hid h74
          have Hk7 := Lib.hid h75
          have hX7 : XB < w7.heap.size := (Array.getElem?_eq_some_iff.1 h72).1
          clear hym hxm h71 h72 h73 h74 h75 hst hst1 fz x1 x2 x3 x4 x5 x6 z0 hcell Hx6 Hc6 Ha6 Hk6 Hb6
          have xq := box_cells Hx7.out
          have x0 := xq 0
          have x1 := xq 1
          have x2 := xq 2
          have x3 := xq 3
          have x4 := xq 4
          have x5 := xq 5
          have x6 := xq 6
          simp only [List.getElem?_toArray, List.getElem?_cons_zero, List.getElem?_cons_succ] at x0 x1 x2 x3 x4 x5 x6
          clear xq
          go_upto_region 14 with (at_builtin; go_loud (refine wpList_append_src _ rfl (.tmp 60) (.tmp 62) 46 rfl w1.heap.size 75 i0 _ 7 56 Try.underlying46 hi0 hz0 hz1 hz2 rfl (by omega) _ k _ rfl (Ha7.out.alloc _) (some ⟨w7.heap.size, 0, none⟩) 1 1 (tpC y) rfl (src_new w7 (tpC y) 75 1 7 rfl) (by simp [tpC, Value.oneCell']) (by unfold maxLen; omega) (by omega) (Nat.le_trans Hb7.out.size (by simp)) ?_; intro va w8 hown8 hg8 hat8))
          have hb8 : Below w1.heap.size w1 w8 := below_grown (Hb7.out.alloc Hb7.out.size _) hg8 (Nat.le_trans Hb7.out.size (by simp)) (Ha7.out.alloc _) (Nat.le_refl _)
          have hk8 := (Hk7.out.alloc (.cells (tpC y).toArray 75)).kept hg8 Hdis.out.right
          have hc8 := (Hc7.out.alloc (.cells (tpC y).toArray 75)).kept hg8 (own_apart Hc7.out Ha7.out (by decide))
          have hx8 : w8.heap[XB]? = some (.cells #[.int .i64 y.machine, .int .i64 y.number, .int .i64 y.card, .int .i64 y.ride.day, .int .i64 y.ride.minute, .int .i64 y.ride.low, .int .i64 y.ride.high] 75 (0, 0)) := by
            rw [hg8.block XB (by simp; omega) HnA2.out]
            exact (Below.heap_alloc w7 _ XB hX7).trans Hx7.out
          have hd8 := Hdis.out.grow (Hk7.out.alloc (.cells (tpC y).toArray 75)) (Nat.le_refl _) hat8
          have Hb8 := Lib.hid hb8
          have Ho8 := Lib.hid hown8
          have Hk8 := Lib.hid hk8
          have Hc8 := Lib.hid hc8
          have Hx8 := Lib.hid hx8
          have Hd8 := Lib.hid hd8
          have hX8 : XB < w8.heap.size := (Array.getElem?_eq_some_iff.1 hx8).1
          obtain ⟨A8, c8, rfl⟩ := own_form hown8
          clear hown8 hg8 hat8 hb8 hk8 hc8 hx8 hd8 x0 x1 x2 x3 x4 x5 x6 Hb7 Hx7 Hc7 Ha7 Hk7 hX7
          have hbit := lost_bit nb k
          have hk1 : (X ++ [y]).flatMap tpC = X.flatMap tpC ++ tpC y := by rw [List.flatMap_append]; simp
          have hk2 : (K ++ [y]).flatMap tpC = K.flatMap tpC ++ tpC y := by rw [List.flatMap_append]; simp
          have Hk1 := Lib.hid hk1
          have Hk2 := Lib.hid hk2
          clear hk1 hk2
          have ev : IntKind.u64.wrap (k : Int) = (k : Int) := by unfold IntKind.wrap; simp [IntKind.signed, IntKind.bits]; omega
          cases htb : nb.testBit k with
          | true =>
            rw [htb] at hbit
            clear htb
            go_wp2
            go_roundw
            case rel => exact ⟨k + 1, X ++ [y], K, L ++ [y], cs.set mn (cn + 1), A8, Ak, c8, ck, nk, by omega, Hlo.out, Hnk.out, rfl, rfl, by go_num, Hb8.out, Hc8.out, by rw [Hk1.out]; exact Ho8.out, Hk8.out, Hd8.out⟩
            case measure => simp [intOf]; omega
          | false =>
            rw [htb] at hbit
            clear htb
            have xq := box_cells Hx8.out
            have x0 := xq 0
            have x1 := xq 1
            have x2 := xq 2
            have x3 := xq 3
            have x4 := xq 4
            have x5 := xq 5
            have x6 := xq 6
            simp only [List.getElem?_toArray, List.getElem?_cons_zero, List.getElem?_cons_succ] at x0 x1 x2 x3 x4 x5 x6
            clear xq
            go_wp2_with (at_builtin; go_loud (refine wpList_append_src _ rfl (.tmp 70) (.tmp 72) 46 rfl w1.heap.size 75 i0 _ 7 56 Try.underlying46 hi0 hz0 hz1 hz2 rfl (by omega) _ nk _ rfl (Hk8.out.alloc _) (some ⟨w8.heap.size, 0, none⟩) 1 1 (tpC y) rfl (src_new w8 (tpC y) 75 1 7 rfl) (by simp [tpC, Value.oneCell']) (by unfold maxLen; omega) (by omega) (Nat.le_trans Hb8.out.size (by simp)) ?_; intro vk w9 hown9 hg9 hat9))
            have hb9 : Below w1.heap.size w1 w9 := below_grown (Hb8.out.alloc Hb8.out.size _) hg9 (Nat.le_trans Hb8.out.size (by simp)) (Hk8.out.alloc _) (Nat.le_refl _)
            have ha9 := (Ho8.out.alloc (.cells (tpC y).toArray 75)).kept hg9 Hd8.out.left
            have hc9 := (Hc8.out.alloc (.cells (tpC y).toArray 75)).kept hg9 (own_apart Hc8.out Hk8.out (by decide))
            have hd9 := Hd8.out.growR (Ho8.out.alloc (.cells (tpC y).toArray 75)) (Nat.le_refl _) hat9
            have Hb9 := Lib.hid hb9
            have Ho9 := Lib.hid hown9
            have Ha9 := Lib.hid ha9
            have Hc9 := Lib.hid hc9
            have Hd9 := Lib.hid hd9
            obtain ⟨A9, c9, rfl⟩ := own_form hown9
            clear hown9 hg9 hat9 hb9 ha9 hc9 hd9 x0 x1 x2 x3 x4 x5 x6
            go_roundw
            case rel => exact ⟨k + 1, X ++ [y], K ++ [y], L, cs.set mn (cn + 1), A8, A9, c8, c9, nk + 1, by omega, Hkn.out, by rw [List.length_append, ← Hnk.out]; rfl, rfl, rfl, by go_num, Hb9.out, Hc9.out, by rw [Hk1.out]; exact Ha9.out, by rw [Hk2.out]; exact Ho9.out, Hd9.out⟩
            case measure => simp [intOf]; omega
      · have ik : ¬ (k : Int) < (N : Int) := by omega
        have hka : k = X.length := HL.out.len.symm
        have hax := tps_own Ha.out
        have hkx := tps_own Hk.out
        have hcx := nums_of_own Hc.out
        have Hax := Lib.hid hax
        have Hkx := Lib.hid hkx
        have Hcx := Lib.hid hcx
        have hk45 : k ≤ 45 := by omega
        have h4 := HL.out.nx.four
        have H4 := Lib.hid h4
        have Hka := Lib.hid hka
        clear hax hkx hcx hka h4
        have HB6 := Lib.hid (HB1.out.trans (Hbr.out.mono HB1.out.size))
        have HX6 := Lib.hid ((Hbr.out.block _ (Array.getElem?_eq_some_iff.1 HX1.out).1).trans HX1.out)
        clear Hbr Hc Ha Hk Hdis hlt
        have aq := box_cells HX6.out
        have a0 := aq 0
        have a1 := aq 1
        have a2 := aq 2
        have a3 := aq 3
        have a4 := aq 4
        simp only [List.getElem?_toArray, List.getElem?_cons_zero, List.getElem?_cons_succ] at a0 a1 a2 a3 a4
        clear aq
        go_wp2_with fail
        refine (taps_law t a b c _ _ X cs _ (HT.out.below HB6.out) Hax.out Hcx.out (by have := Hka.out; omega)).mono ?_
        rintro e wt ⟨rfl, hbt⟩
        clear a0 a1 a2 a3 a4
        have HB7 := Lib.hid (HB6.out.trans (hbt.mono HB6.out.size))
        have HX7 := Lib.hid ((hbt.block _ (Array.getElem?_eq_some_iff.1 HX6.out).1).trans HX6.out)
        have Hax := Lib.hid (Hax.out.below hbt)
        have Hkx := Lib.hid (Hkx.out.below hbt)
        have Hcx := Lib.hid (Hcx.out.below hbt)
        clear hbt
        obtain ⟨F, hF⟩ : ∃ F, tapsF t X cs = F := ⟨_, rfl⟩
        rw [hF]
        have HF := Lib.hid hF
        clear hF
        by_cases h0 : F = 0
        rotate_left
        · have hd : (F != 0) = true := by simpa using h0
          clear h0
          go_wp2_with fail
          refine (awake_any _).mono ?_
          rintro e wz8 ⟨rfl, hbz8⟩
          go_wp2
          go_ret
          exact ⟨rfl, HB7.out.trans (hbz8.mono HB7.out.size)⟩
        subst h0
        have hok := tapsF_ok.1 HF.out
        obtain ⟨hkO, hhi, hdu, hlo, hup⟩ := lost_final HL.out hok
        have HFK := Lib.hid (tapsF_ok.2 hkO)
        obtain ⟨lx, hlx⟩ : ∃ lx, totalLo t X = lx := ⟨_, rfl⟩
        obtain ⟨lk, hlk⟩ : ∃ lk, totalLo t K = lk := ⟨_, rfl⟩
        obtain ⟨uk, huk⟩ : ∃ uk, totalHi t K cs = uk := ⟨_, rfl⟩
        obtain ⟨DX, hDX⟩ : ∃ DX, duesL t X = DX := ⟨_, rfl⟩
        obtain ⟨DK, hDK⟩ : ∃ DK, duesL t K = DK := ⟨_, rfl⟩
        have hX10 : DX.length = 10 := by rw [← hDX]; exact duesL_len t X
        have hK10 : DK.length = 10 := by rw [← hDK]; exact duesL_len t K
        have hsum : sumI DX = lx := by rw [← hDX]; exact hlx
        rw [hDX, hDK] at hdu
        rw [hlx] at hhi hlo hup
        rw [hlk] at hlo
        rw [huk] at hup
        have HDX := Lib.hid hDX
        have HDK := Lib.hid hDK
        have HlenX := Lib.hid hX10
        have HlenK := Lib.hid hK10
        have Hsum := Lib.hid hsum
        have Hdu := Lib.hid hdu
        have Hlx := Lib.hid hlx
        have Hlk := Lib.hid hlk
        have Huk := Lib.hid huk
        have Hhi := Lib.hid hhi
        have Hlo2 := Lib.hid hlo
        have Hup := Lib.hid hup
        clear hok hkO hhi hdu hlo hup hlx hlk huk hDX hDK hX10 hK10 hsum
        have aq := box_cells HX7.out
        have a0 := aq 0
        have a1 := aq 1
        have a2 := aq 2
        have a3 := aq 3
        have a4 := aq 4
        simp only [List.getElem?_toArray, List.getElem?_cons_zero, List.getElem?_cons_succ] at a0 a1 a2 a3 a4
        clear aq
        go_wp2_with fail
        refine (Tariff_law t a b c _ (HT.out.below HB7.out) Hth.out).mono ?_
        rintro e xa9 ⟨pa9, pb9, pc9, rfl, hT9, hxa9⟩
        clear a0 a1 a2 a3 a4
        have HB10 := Lib.hid (HB7.out.trans (hxa9.mono HB7.out.size))
        have HX10 := Lib.hid ((hxa9.block _ (Array.getElem?_eq_some_iff.1 HX7.out).1).trans HX7.out)
        have Hax := Lib.hid (Hax.out.below hxa9)
        have Hkx := Lib.hid (Hkx.out.below hxa9)
        have Hcx := Lib.hid (Hcx.out.below hxa9)
        go_wp2_with fail
        refine (Taps_law _ X _ Hax.out (by have := Hka.out; omega)).mono ?_
        rintro e xb9 ⟨pA9, pk9, rfl, hr9, hxb9⟩
        have hT9 := hT9.below hxb9
        have HB11 := Lib.hid (HB10.out.trans (hxb9.mono HB10.out.size))
        have HX11 := Lib.hid ((hxb9.block _ (Array.getElem?_eq_some_iff.1 HX10.out).1).trans HX10.out)
        have Hax := Lib.hid (Hax.out.below hxb9)
        have Hkx := Lib.hid (Hkx.out.below hxb9)
        have Hcx := Lib.hid (Hcx.out.below hxb9)
        go_wp2_with fail
        refine (copy_any _ cs _ Hcx.out (by have := H4.out; omega)).mono ?_
        rintro e xd9 ⟨pB9, pq9, rfl, ho9, hxd9⟩
        have hT9 := hT9.below hxd9
        have hr9 := hr9.below hxd9
        have hz9 := nums_of_own ho9
        have HB12 := Lib.hid (HB11.out.trans (hxd9.mono HB11.out.size))
        have HX12 := Lib.hid ((hxd9.block _ (Array.getElem?_eq_some_iff.1 HX11.out).1).trans HX11.out)
        have Hax := Lib.hid (Hax.out.below hxd9)
        have Hkx := Lib.hid (Hkx.out.below hxd9)
        have Hcx := Lib.hid (Hcx.out.below hxd9)
        go_wp2_with fail
        refine (Charges_any t pa9 pb9 pc9 _ _ X cs _ hT9 hr9 hz9 (by have := Hka.out; omega)).mono ?_
        rintro e xc9 ⟨hxc9, _, hg⟩
        obtain ⟨CA0, Ck0, rfl, hda⟩ := hg HF.out
        rw [HDX.out, HlenX.out] at hda
        rw [HDX.out, HlenX.out]
        have Hda0 := Lib.hid hda
        clear hg hda hT9 hr9 hz9 ho9
        have HB13 := Lib.hid (HB12.out.trans (hxc9.mono HB12.out.size))
        have HX13 := Lib.hid ((hxc9.block _ (Array.getElem?_eq_some_iff.1 HX12.out).1).trans HX12.out)
        have Hax := Lib.hid (Hax.out.below hxc9)
        have Hkx := Lib.hid (Hkx.out.below hxc9)
        have Hcx := Lib.hid (Hcx.out.below hxc9)
        clear hxc9
        have aq := box_cells HX13.out
        have a0 := aq 0
        have a1 := aq 1
        have a2 := aq 2
        have a3 := aq 3
        have a4 := aq 4
        simp only [List.getElem?_toArray, List.getElem?_cons_zero, List.getElem?_cons_succ] at a0 a1 a2 a3 a4
        clear aq
        go_wp2_with fail
        refine (Tariff_law t a b c _ (HT.out.below HB13.out) Hth.out).mono ?_
        rintro e xa14 ⟨pa14, pb14, pc14, rfl, hT14, hxa14⟩
        clear a0 a1 a2 a3 a4
        have HB15 := Lib.hid (HB13.out.trans (hxa14.mono HB13.out.size))
        have HX15 := Lib.hid ((hxa14.block _ (Array.getElem?_eq_some_iff.1 HX13.out).1).trans HX13.out)
        have Hax := Lib.hid (Hax.out.below hxa14)
        have Hkx := Lib.hid (Hkx.out.below hxa14)
        have Hcx := Lib.hid (Hcx.out.below hxa14)
        have Hda0 := Lib.hid (Hda0.out.below hxa14)
        go_wp2_with fail
        refine (Taps_law _ K _ Hkx.out (by have := Hnk.out; omega)).mono ?_
        rintro e xb14 ⟨pA14, pk14, rfl, hr14, hxb14⟩
        have hT14 := hT14.below hxb14
        have HB16 := Lib.hid (HB15.out.trans (hxb14.mono HB15.out.size))
        have HX16 := Lib.hid ((hxb14.block _ (Array.getElem?_eq_some_iff.1 HX15.out).1).trans HX15.out)
        have Hax := Lib.hid (Hax.out.below hxb14)
        have Hkx := Lib.hid (Hkx.out.below hxb14)
        have Hcx := Lib.hid (Hcx.out.below hxb14)
        have Hda0 := Lib.hid (Hda0.out.below hxb14)
        go_wp2_with fail
        refine (copy_any _ cs _ Hcx.out (by have := H4.out; omega)).mono ?_
        rintro e xd14 ⟨pB14, pq14, rfl, ho14, hxd14⟩
        have hT14 := hT14.below hxd14
        have hr14 := hr14.below hxd14
        have hz14 := nums_of_own ho14
        have HB17 := Lib.hid (HB16.out.trans (hxd14.mono HB16.out.size))
        have HX17 := Lib.hid ((hxd14.block _ (Array.getElem?_eq_some_iff.1 HX16.out).1).trans HX16.out)
        have Hax := Lib.hid (Hax.out.below hxd14)
        have Hkx := Lib.hid (Hkx.out.below hxd14)
        have Hcx := Lib.hid (Hcx.out.below hxd14)
        have Hda0 := Lib.hid (Hda0.out.below hxd14)
        go_wp2_with fail
        refine (Charges_any t pa14 pb14 pc14 _ _ K cs _ hT14 hr14 hz14 (by have := Hnk.out; omega)).mono ?_
        rintro e xc14 ⟨hxc14, _, hg⟩
        obtain ⟨CA1, Ck1, rfl, hda⟩ := hg HFK.out
        rw [HDK.out, HlenK.out] at hda
        rw [HDK.out, HlenK.out]
        have Hda1 := Lib.hid hda
        clear hg hda hT14 hr14 hz14 ho14
        have HB18 := Lib.hid (HB17.out.trans (hxc14.mono HB17.out.size))
        have HX18 := Lib.hid ((hxc14.block _ (Array.getElem?_eq_some_iff.1 HX17.out).1).trans HX17.out)
        have Hax := Lib.hid (Hax.out.below hxc14)
        have Hkx := Lib.hid (Hkx.out.below hxc14)
        have Hcx := Lib.hid (Hcx.out.below hxc14)
        have Hda0 := Lib.hid (Hda0.out.below hxc14)
        clear hxc14
        have aq := box_cells HX18.out
        have a0 := aq 0
        have a1 := aq 1
        have a2 := aq 2
        have a3 := aq 3
        have a4 := aq 4
        simp only [List.getElem?_toArray, List.getElem?_cons_zero, List.getElem?_cons_succ] at a0 a1 a2 a3 a4
        clear aq
        go_wp2_with fail
        refine (Tariff_law t a b c _ (HT.out.below HB18.out) Hth.out).mono ?_
        rintro e xa19 ⟨pa19, pb19, pc19, rfl, hT19, hxa19⟩
        clear a0 a1 a2 a3 a4
        have HB20 := Lib.hid (HB18.out.trans (hxa19.mono HB18.out.size))
        have HX20 := Lib.hid ((hxa19.block _ (Array.getElem?_eq_some_iff.1 HX18.out).1).trans HX18.out)
        have Hax := Lib.hid (Hax.out.below hxa19)
        have Hkx := Lib.hid (Hkx.out.below hxa19)
        have Hcx := Lib.hid (Hcx.out.below hxa19)
        have Hda0 := Lib.hid (Hda0.out.below hxa19)
        have Hda1 := Lib.hid (Hda1.out.below hxa19)
        go_wp2_with fail
        refine (Taps_law _ X _ Hax.out (by have := Hka.out; omega)).mono ?_
        rintro e xb19 ⟨pA19, pk19, rfl, hr19, hxb19⟩
        have hT19 := hT19.below hxb19
        have HB21 := Lib.hid (HB20.out.trans (hxb19.mono HB20.out.size))
        have HX21 := Lib.hid ((hxb19.block _ (Array.getElem?_eq_some_iff.1 HX20.out).1).trans HX20.out)
        have Hax := Lib.hid (Hax.out.below hxb19)
        have Hkx := Lib.hid (Hkx.out.below hxb19)
        have Hcx := Lib.hid (Hcx.out.below hxb19)
        have Hda0 := Lib.hid (Hda0.out.below hxb19)
        have Hda1 := Lib.hid (Hda1.out.below hxb19)
        go_wp2_with fail
        refine (copy_any _ cs _ Hcx.out (by have := H4.out; omega)).mono ?_
        rintro e xd19 ⟨pB19, pq19, rfl, ho19, hxd19⟩
        have hT19 := hT19.below hxd19
        have hr19 := hr19.below hxd19
        have hz19 := nums_of_own ho19
        have HB22 := Lib.hid (HB21.out.trans (hxd19.mono HB21.out.size))
        have HX22 := Lib.hid ((hxd19.block _ (Array.getElem?_eq_some_iff.1 HX21.out).1).trans HX21.out)
        have Hax := Lib.hid (Hax.out.below hxd19)
        have Hkx := Lib.hid (Hkx.out.below hxd19)
        have Hcx := Lib.hid (Hcx.out.below hxd19)
        have Hda0 := Lib.hid (Hda0.out.below hxd19)
        have Hda1 := Lib.hid (Hda1.out.below hxd19)
        go_wp2_with fail
        refine (Total_any t pa19 pb19 pc19 _ _ X cs _ hT19 hr19 hz19 (by have := Hka.out; omega)).mono ?_
        rintro e xc19 ⟨hxc19, _, hg⟩
        obtain rfl := hg HF.out
        rw [Hhi.out, Hlx.out]
        clear hg hT19 hr19 hz19 ho19
        have HB23 := Lib.hid (HB22.out.trans (hxc19.mono HB22.out.size))
        have HX23 := Lib.hid ((hxc19.block _ (Array.getElem?_eq_some_iff.1 HX22.out).1).trans HX22.out)
        have Hax := Lib.hid (Hax.out.below hxc19)
        have Hkx := Lib.hid (Hkx.out.below hxc19)
        have Hcx := Lib.hid (Hcx.out.below hxc19)
        have Hda0 := Lib.hid (Hda0.out.below hxc19)
        have Hda1 := Lib.hid (Hda1.out.below hxc19)
        clear hxc19
        go_upto_region 21 with (fail)
        refine wp_name (fun V => Below xc19.heap.size xc19 V ∧ V.heap[xc19.heap.size]? = some (.cells #[.int .i64 lx, .int .i64 lx] 61 (0, 0))) ⟨(Below.refl _ _).alloc (Nat.le_refl _) _, heap_alloc_new xc19 _⟩ (fun V19 hV => ?_)
        obtain ⟨hbV19, hxV⟩ := hV
        obtain ⟨G0, hG⟩ : ∃ G, xc19.heap.size = G := ⟨_, rfl⟩
        rw [hG] at hxV ⊢
        have HG0 := Lib.hid hxV
        clear hG hxV
        have HB24 := Lib.hid (HB23.out.trans (hbV19.mono HB23.out.size))
        have HX24 := Lib.hid ((hbV19.block _ (Array.getElem?_eq_some_iff.1 HX23.out).1).trans HX23.out)
        have Hax := Lib.hid (Hax.out.below hbV19)
        have Hkx := Lib.hid (Hkx.out.below hbV19)
        have Hcx := Lib.hid (Hcx.out.below hbV19)
        have Hda0 := Lib.hid (Hda0.out.below hbV19)
        have Hda1 := Lib.hid (Hda1.out.below hbV19)
        clear hbV19
        have aq := box_cells HX24.out
        have a0 := aq 0
        have a1 := aq 1
        have a2 := aq 2
        have a3 := aq 3
        have a4 := aq 4
        simp only [List.getElem?_toArray, List.getElem?_cons_zero, List.getElem?_cons_succ] at a0 a1 a2 a3 a4
        clear aq
        go_wp2_with fail
        refine (Tariff_law t a b c _ (HT.out.below HB24.out) Hth.out).mono ?_
        rintro e xa25 ⟨pa25, pb25, pc25, rfl, hT25, hxa25⟩
        clear a0 a1 a2 a3 a4
        have HB26 := Lib.hid (HB24.out.trans (hxa25.mono HB24.out.size))
        have HX26 := Lib.hid ((hxa25.block _ (Array.getElem?_eq_some_iff.1 HX24.out).1).trans HX24.out)
        have Hax := Lib.hid (Hax.out.below hxa25)
        have Hkx := Lib.hid (Hkx.out.below hxa25)
        have Hcx := Lib.hid (Hcx.out.below hxa25)
        have Hda0 := Lib.hid (Hda0.out.below hxa25)
        have Hda1 := Lib.hid (Hda1.out.below hxa25)
        have HG0 := Lib.hid ((hxa25.block _ (Array.getElem?_eq_some_iff.1 HG0.out).1).trans HG0.out)
        go_wp2_with fail
        refine (Taps_law _ K _ Hkx.out (by have := Hnk.out; omega)).mono ?_
        rintro e xb25 ⟨pA25, pk25, rfl, hr25, hxb25⟩
        have hT25 := hT25.below hxb25
        have HB27 := Lib.hid (HB26.out.trans (hxb25.mono HB26.out.size))
        have HX27 := Lib.hid ((hxb25.block _ (Array.getElem?_eq_some_iff.1 HX26.out).1).trans HX26.out)
        have Hax := Lib.hid (Hax.out.below hxb25)
        have Hkx := Lib.hid (Hkx.out.below hxb25)
        have Hcx := Lib.hid (Hcx.out.below hxb25)
        have Hda0 := Lib.hid (Hda0.out.below hxb25)
        have Hda1 := Lib.hid (Hda1.out.below hxb25)
        have HG0 := Lib.hid ((hxb25.block _ (Array.getElem?_eq_some_iff.1 HG0.out).1).trans HG0.out)
        go_wp2_with fail
        refine (copy_any _ cs _ Hcx.out (by have := H4.out; omega)).mono ?_
        rintro e xd25 ⟨pB25, pq25, rfl, ho25, hxd25⟩
        have hT25 := hT25.below hxd25
        have hr25 := hr25.below hxd25
        have hz25 := nums_of_own ho25
        have HB28 := Lib.hid (HB27.out.trans (hxd25.mono HB27.out.size))
        have HX28 := Lib.hid ((hxd25.block _ (Array.getElem?_eq_some_iff.1 HX27.out).1).trans HX27.out)
        have Hax := Lib.hid (Hax.out.below hxd25)
        have Hkx := Lib.hid (Hkx.out.below hxd25)
        have Hcx := Lib.hid (Hcx.out.below hxd25)
        have Hda0 := Lib.hid (Hda0.out.below hxd25)
        have Hda1 := Lib.hid (Hda1.out.below hxd25)
        have HG0 := Lib.hid ((hxd25.block _ (Array.getElem?_eq_some_iff.1 HG0.out).1).trans HG0.out)
        go_wp2_with fail
        refine (Total_any t pa25 pb25 pc25 _ _ K cs _ hT25 hr25 hz25 (by have := Hnk.out; omega)).mono ?_
        rintro e xc25 ⟨hxc25, _, hg⟩
        obtain rfl := hg HFK.out
        rw [Hlk.out, Huk.out]
        clear hg hT25 hr25 hz25 ho25
        have HB29 := Lib.hid (HB28.out.trans (hxc25.mono HB28.out.size))
        have HX29 := Lib.hid ((hxc25.block _ (Array.getElem?_eq_some_iff.1 HX28.out).1).trans HX28.out)
        have Hax := Lib.hid (Hax.out.below hxc25)
        have Hkx := Lib.hid (Hkx.out.below hxc25)
        have Hcx := Lib.hid (Hcx.out.below hxc25)
        have Hda0 := Lib.hid (Hda0.out.below hxc25)
        have Hda1 := Lib.hid (Hda1.out.below hxc25)
        have HG0 := Lib.hid ((hxc25.block _ (Array.getElem?_eq_some_iff.1 HG0.out).1).trans HG0.out)
        clear hxc25
        go_upto_region 22 with (fail)
        refine wp_name (fun V => Below xc25.heap.size xc25 V ∧ V.heap[xc25.heap.size]? = some (.cells #[.int .i64 lk, .int .i64 uk] 61 (0, 0))) ⟨(Below.refl _ _).alloc (Nat.le_refl _) _, heap_alloc_new xc25 _⟩ (fun V25 hV => ?_)
        obtain ⟨hbV25, hxV⟩ := hV
        obtain ⟨G1, hG⟩ : ∃ G, xc25.heap.size = G := ⟨_, rfl⟩
        rw [hG] at hxV ⊢
        have HG1 := Lib.hid hxV
        clear hG hxV
        have HB30 := Lib.hid (HB29.out.trans (hbV25.mono HB29.out.size))
        have HX30 := Lib.hid ((hbV25.block _ (Array.getElem?_eq_some_iff.1 HX29.out).1).trans HX29.out)
        have Hax := Lib.hid (Hax.out.below hbV25)
        have Hkx := Lib.hid (Hkx.out.below hbV25)
        have Hcx := Lib.hid (Hcx.out.below hbV25)
        have Hda0 := Lib.hid (Hda0.out.below hbV25)
        have Hda1 := Lib.hid (Hda1.out.below hbV25)
        have HG0 := Lib.hid ((hbV25.block _ (Array.getElem?_eq_some_iff.1 HG0.out).1).trans HG0.out)
        clear hbV25
        have uq := box_cells HG0.out
        have u0 := uq 0
        have u1 := uq 1
        simp only [List.getElem?_toArray, List.getElem?_cons_zero, List.getElem?_cons_succ] at u0 u1
        clear uq
        go_upto_region 26 with (fail)
        clear u0 u1
        go_loopw [20, 21] (fun su si wr2 => ∃ k : Nat, k ≤ 10 ∧ su = .int .i64 (dueK DX k) ∧ 0 ≤ dueK DX k ∧ dueK DX k ≤ 120000 * (k : Int) ∧ si = .int .i64 k ∧ Below V25.heap.size V25 wr2) (fun su si wr2 => 10 - (intOf si).toNat)
        case atStart => exact ⟨0, by omega, rfl, by simp [dueK, sumI], by simp [dueK, sumI], rfl, Below.refl _ _⟩
        case round =>
          obtain ⟨i, hi, rfl, hd0, hd1, rfl, hbi⟩ := hrel
          have Hbi := Lib.hid hbi
          clear hbi
          by_cases hlt : i < 10
          · obtain ⟨va, vb, hva, hvb, h1, h2, h3⟩ := Hdu.out i hlt
            obtain ⟨ba, oa, xa', rfl, hxa, qa, _⟩ := Hda0.out.at_ (n := 10) (k := i) (by have := HlenX.out; omega)
            obtain ⟨bb, ob, xb', rfl, hxb, qb, _⟩ := Hda1.out.at_ (n := 10) (k := i) (by have := HlenK.out; omega)
            obtain rfl : xa' = va := Option.some.inj (hxa.symm.trans hva)
            obtain rfl : xb' = vb := Option.some.inj (hxb.symm.trans hvb)
            have hsu := dueK_succ hva
            obtain ⟨sd, hsd⟩ : ∃ sd, dueK DX i = sd := ⟨_, rfl⟩
            rw [hsd] at hd0 hd1 hsu ⊢
            have ii : (i : Int) < 10 := by omega
            have e1 : decide (xa' < xb') = false := decide_eq_false (by omega)
            have e2 : decide (xb' < 0) = false := decide_eq_false (by omega)
            have hw : IntKind.i64.wrap (sd + xa') = sd + xa' := IntWalk.i64_in _ (by omega)
            have Hsu := Lib.hid hsu
            have qa0 := cell_below Hbi.out qa
            have qb0 := cell_below Hbi.out qb
            have la := Later.cell qa0
            have lb := Later.cell qb0
            clear hva hvb hxa hxb hsu hsd qa qb
            go_upto_region 28 with (fail)
            refine wp_region_later (by kernel_rfl) (by kernel_rfl) ?_
            repeat (change wpQuiet _ _ _ _ (_ :: _) _; go_big_quiet_step (fail))
            refine wpQuiet_nil ?_
            intro w5 hL5
            have hb5 := Later.out hL5
            have qa5 := cell_below hb5 qa0
            have Hb5 := Lib.hid (Hbi.out.trans (hb5.mono Hbi.out.size))
            clear hL5 hb5 la lb qa0 qb0
            go_wp2
            go_roundw
            case rel => exact ⟨i + 1, by omega, by rw [Hsu.out], by rw [Hsu.out]; omega, by rw [Hsu.out]; omega, by go_num, Hb5.out⟩
            case measure => simp [intOf]; omega
          · have ii : ¬ (i : Int) < 10 := by omega
            have hsk : dueK DX i = lx := by
              unfold dueK
              rw [List.take_of_length_le (by have := HlenX.out; omega)]
              exact Hsum.out
            rw [hsk]
            have e1 : (lx == lx) = true := by simp
            have e2 : decide (lk ≤ lx) = true := decide_eq_true Hlo2.out
            have e3 : decide (lx ≤ uk) = true := decide_eq_true Hup.out
            clear hsk hd0 hd1 hi hlt
            have HB31 := Lib.hid (HB30.out.trans (Hbi.out.mono HB30.out.size))
            have HX31 := Lib.hid ((Hbi.out.block _ (Array.getElem?_eq_some_iff.1 HX30.out).1).trans HX30.out)
            have HG0 := Lib.hid ((Hbi.out.block _ (Array.getElem?_eq_some_iff.1 HG0.out).1).trans HG0.out)
            have HG1 := Lib.hid ((Hbi.out.block _ (Array.getElem?_eq_some_iff.1 HG1.out).1).trans HG1.out)
            have uq := box_cells HG0.out
            have u0 := uq 0
            have u1 := uq 1
            simp only [List.getElem?_toArray, List.getElem?_cons_zero, List.getElem?_cons_succ] at u0 u1
            clear uq
            have yq := box_cells HG1.out
            have y0 := yq 0
            have y1 := yq 1
            simp only [List.getElem?_toArray, List.getElem?_cons_zero, List.getElem?_cons_succ] at y0 y1
            clear yq
            go_wp2_with fail
            refine (awake_any _).mono ?_
            rintro e wz32 ⟨rfl, hbz32⟩
            go_wp2
            go_ret
            exact ⟨rfl, HB31.out.trans (hbz32.mono HB31.out.size)⟩
end Go.Proofs.Ytmbkpfkkohpnkaa
