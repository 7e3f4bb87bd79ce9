import Derived.Test.YtmbkpfkkohpnkaaOf
import Derived.Test.YtmbkpfkkohpnkaaRa
import Derived.Test.YtmbkpfkkohpnkaaRw
import Derived.Test.YtmbkpfkkohpnkaaPe
set_option linter.unusedVariables false
set_option linter.unusedSimpArgs false
namespace Go.Proofs.Ytmbkpfkkohpnkaa
open Go Go.Proofs Go.RowKit Go.Shelf

attribute [local go_sem] Oper.semAt_some

/-! ### The least of two, the dearest single -/
set_option maxRecDepth 100000 in
theorem Min_two (b : Nat) (x y : Int) (w : World) (h0 : w.cell? ⟨b, 0, none⟩ = some (.int .i64 x)) (h1 : w.cell? ⟨b, 1, none⟩ = some (.int .i64 y)) : Calls Try.prog 106 #[.slice (some ⟨b, 0, none⟩) 2 2] w (Same w (.int .i64 (min x y))) := by
  go_enter Try.func106, Try.ntmps106
  go_wp2
  go_loop [3, 4] (fun m i => ∃ (k : Nat) (z : Int), i = .int .i64 k ∧ m = .int .i64 z ∧ ((k = 1 ∧ z = x) ∨ (k = 2 ∧ z = min x y))) (fun m i => 2 - (intOf i).toNat)
  case atStart => exact ⟨1, x, rfl, rfl, .inl ⟨rfl, rfl⟩⟩
  case round =>
    obtain ⟨k, z, rfl, rfl, h⟩ := hrel
    rcases h with ⟨rfl, rfl⟩ | ⟨rfl, rfl⟩
    · go_wp2
      go_round
      case rel => exact ⟨2, _, rfl, rfl, .inr ⟨rfl, rfl⟩⟩
      case measure => simp [intOf]
    · go_wp2
      go_ret
      exact ⟨rfl, rfl⟩
set_option maxRecDepth 100000 in
theorem least_two (b : Nat) (x y : Int) (w : World) (h0 : w.cell? ⟨b, 0, none⟩ = some (.int .i64 x)) (h1 : w.cell? ⟨b, 1, none⟩ = some (.int .i64 y)) : Calls Try.prog 87 #[.slice (some ⟨b, 0, none⟩) 2 2] w (Same w (.int .i64 (min x y))) := by
  have H := Lib.hid (Min_two b x y w h0 h1)
  clear h0 h1
  go_enter Try.func87, Try.ntmps87
  go_wp2_with fail
  refine H.out.mono ?_
  rintro e w1 ⟨rfl, rfl⟩
  go_wp2
  go_ret
  exact ⟨rfl, rfl⟩
def cheF (t : Tar) (m : Int) (p : Int × Int) : Int := min m (singleAt t p)
theorem cheF_bd {t : Tar} (hl : ∀ x ∈ t.singles, 0 ≤ x ∧ x ≤ 10000) : ∀ (ps : List (Int × Int)) (m : Int), 0 ≤ m → m ≤ 10000 → 0 ≤ ps.foldl (cheF t) m ∧ ps.foldl (cheF t) m ≤ 10000
  | [], m, h0, h1 => ⟨h0, h1⟩
  | p :: ps, m, h0, h1 => by
    simp only [List.foldl_cons]
    refine cheF_bd hl ps _ ?_ ?_
    · unfold cheF singleAt
      cases hq : t.singles[(p.2 - p.1).toNat]? with
      | none => simp only [Option.getD_none]; omega
      | some z =>
        have := hl z (List.mem_of_getElem? hq)
        simp only [Option.getD_some]
        omega
    · unfold cheF
      omega
theorem cheapT_eq (t : Tar) (lo hi : Int) : cheapT t lo hi = (widerL t lo hi).foldl (cheF t) 10000 := rfl
def deaK (t : Tar) (lo : Nat) (m : Int) (n : Nat) : Int := (List.range n).foldl (fun m (k : Nat) => max m (cheapT t lo ((lo + k : Nat) : Int))) m
theorem deaK_succ (t : Tar) (lo : Nat) (m : Int) (n : Nat) : deaK t lo m (n + 1) = max (deaK t lo m n) (cheapT t lo ((lo + n : Nat) : Int)) := by
  unfold deaK
  rw [List.range_succ, List.foldl_append]
  rfl
def deaN (t : Tar) (n : Nat) : Int := (List.range n).foldl (fun m lo => deaRow t lo m) 0
theorem deaN_succ (t : Tar) (n : Nat) : deaN t (n + 1) = deaRow t n (deaN t n) := by
  unfold deaN
  rw [List.range_succ, List.foldl_append]
  rfl
theorem box_ownF {α : Type} {B C : Nat} {T : TypeId} (f : List α → Array Value) : OwnFrom B (fun (pre : List α) W => W.heap[C]? = some (.cells (f pre) T (0, 0))) := fun s W W' row h hg hr => by
  refine (hg.block C (Array.getElem?_eq_some_iff.1 h).1 (fun e => ?_)).trans h
  obtain ⟨_, o, ho, hc⟩ := hr C e.symm
  rw [h] at ho
  cases ho
  cases hc
set_option maxRecDepth 100000 in
set_option maxHeartbeats 4000000 in
theorem dearest_any (t : Tar) (a b c : Value) (w : World) (hT : TarAt w a b c t) (ht : tarB t = true) : Calls Try.prog 61 #[.agg #[.int .i64 t.zones, a, b, c, .int .i64 t.window]] w (Gives w (.int .i64 (deaT t))) := by
  obtain ⟨i0, hi0, hz0, hz1, hz2⟩ := info_parts infoI
  have hz := tar_pos ht
  obtain ⟨zn, hzn⟩ : ∃ zn : Nat, t.zones = (zn : Int) := ⟨t.zones.toNat, by omega⟩
  have hk0 := kindL_ok ht 0
  have hlen : t.singles.length = zn := by
    have : ((t.singles).length : Int) = t.zones := by simpa [kindL] using hk0.1
    omega
  have hall : ∀ x ∈ t.singles, 0 ≤ x ∧ x ≤ 10000 := hk0.2
  have Hall := Lib.hid hall
  have Hlen := Lib.hid hlen
  have HT := Lib.hid hT
  have Hzn := Lib.hid hzn
  have hz4 : zn ≤ 4 := by omega
  clear hk0 hall hlen hT ht hzn hz
  refine (callsIn_wide (n := 3)).1 ?_
  refine callsIn_of_wp_marks Try.func61 rfl trivial ?_
  simp only [Try.ntmps61, List.size_toArray, List.length_cons, List.length_nil, Nat.reduceAdd, Nat.reduceSub, Array.replicate_succ, Array.replicate_zero, List.push_toArray, List.append_toArray, List.nil_append, List.cons_append]
  gi_wp2_with fail
  refine wpIn_name (fun W => Below w.heap.size w W ∧ W.heap[w.heap.size]? = some (.cells #[.int .i64 t.zones, a, b, c, .int .i64 t.window] 32 (0, 0))) ⟨(Below.refl _ _).alloc (Nat.le_refl _) _, heap_alloc_new w _⟩ (fun W0 hF => ?_)
  obtain ⟨hb0, hA0⟩ := hF
  refine wpIn_loop (fun a' W => ∃ (k : Nat) (ds : List Nat) (most : Int) (u3 u4 u5 u11 u12 u13 u14 u15 u16 u17 u18 u19 u20 u21 u22 u23 u36 u37 u38 u39 : Value), (k ≤ zn ∧ most = deaN t k ∧ (0 ≤ most ∧ most ≤ 10000) ∧ Below w.heap.size w W ∧ W.heap[w.heap.size]? = some (.cells #[.int .i64 t.zones, a, b, c, .int .i64 t.window] 32 (0, 0)) ∧ OpenMarks w.heap.size W ds) ∧
    a' = { tmps := #[.agg #[.int .i64 t.zones, a, b, c, .int .i64 t.window], .pointer (some ⟨w.heap.size, 0, none⟩), .int .i64 most, u3, u4, u5, undef, undef, .pointer (some ⟨w.heap.size, 0, none⟩), .int .i64 t.zones, .int .i64 (k : Int), u11, u12, u13, u14, u15, u16, u17, u18, u19, u20, u21, u22, u23, undef, undef, undef, undef, undef, undef, undef, undef, undef, undef, undef, undef, u36, u37, u38, u39, undef], defers := marks ds }) (fun a' _ => zn - (intOf (a'.tmps.getD 10 undef)).toNat) ?_ ?_
  · exact ⟨0, [], 0, undef, undef, undef, undef, undef, undef, undef, undef, undef, undef, undef, undef, undef, undef, undef, undef, undef, undef, undef, undef, ⟨by omega, rfl, by omega, hb0, hA0, by simp [OpenMarks]⟩, rfl⟩
  rintro _ wr ⟨k, ds, most, u3, u4, u5, u11, u12, u13, u14, u15, u16, u17, u18, u19, u20, u21, u22, u23, u36, u37, u38, u39, ⟨hk, hmo, hmb, hbr, hAr, hmk⟩, rfl⟩
  dsimp only
  have Hmo := Lib.hid hmo
  clear hmo hb0 hA0
  by_cases hlt : k < zn
  · have ik : (k : Int) < t.zones := by have := Hzn.out; omega
    gi_wp2_with fail
    refine wpIn_loop (fun a' W => ∃ (j : Nat) (hi mo : Int) (ds : List Nat) (u5 u14 u15 u16 u17 u18 u19 u20 u21 u22 u23 u36 u37 u38 u39 : Value), (hi = (k : Int) + (j : Int) ∧ k + j ≤ zn ∧ mo = deaK t k most j ∧ (0 ≤ mo ∧ mo ≤ 10000) ∧ Below w.heap.size w W ∧ W.heap[w.heap.size]? = some (.cells #[.int .i64 t.zones, a, b, c, .int .i64 t.window] 32 (0, 0)) ∧ OpenMarks w.heap.size W ds) ∧
      a' = { tmps := #[.agg #[.int .i64 t.zones, a, b, c, .int .i64 t.window], .pointer (some ⟨w.heap.size, 0, none⟩), .int .i64 mo, .int .i64 (k : Int), .int .i64 hi, u5, undef, undef, .pointer (some ⟨w.heap.size, 0, none⟩), .int .i64 t.zones, .int .i64 (k : Int), .bool true, .int .i64 (k : Int), .int .i64 (k : Int), u14, u15, u16, u17, u18, u19, u20, u21, u22, u23, undef, undef, undef, undef, undef, undef, undef, undef, undef, undef, undef, undef, u36, u37, u38, u39, undef], defers := marks ds }) (fun a' _ => zn - (intOf (a'.tmps.getD 4 undef)).toNat) ?_ ?_
    · exact ⟨0, (k : Int), most, ds, _, _, _, _, _, _, _, _, _, _, _, _, _, _, _, ⟨by omega, by omega, rfl, hmb, hbr, hAr, hmk⟩, rfl⟩
    rintro _ ws ⟨j, hi, mo, es, u5, u14, u15, u16, u17, u18, u19, u20, u21, u22, u23, u36, u37, u38, u39, ⟨hhi, hkj, hmj, hmjb, hbs, hAs, hms⟩, rfl⟩
    dsimp only
    have Hmj := Lib.hid hmj
    have Hhi := Lib.hid hhi
    have Hbs := Lib.hid hbs
    have HAs := Lib.hid hAs
    have Hms := Lib.hid hms
    have hlw : w.heap.size < ws.heap.size := (Array.getElem?_eq_some_iff.1 hAs).1
    have qa := box_cells hAs
    have a0 := qa 0
    have a1 := qa 1
    have a2 := qa 2
    have a3 := qa 3
    have a4 := qa 4
    simp only [List.getElem?_toArray, List.getElem?_cons_zero, List.getElem?_cons_succ] at a0 a1 a2 a3 a4
    clear hmj hbs hAs hms qa hbr hAr hmk hhi
    by_cases hlt2 : k + j < zn
    · have ih : hi < t.zones := by have := Hzn.out; have := Hhi.out; omega
      gi_wp2_with fail
      refine ⟨trivial, ?_⟩
      refine (callsIn_wide.2 (wider_any t a b c (k : Int) hi _)).mono ?_
      rintro e W1 ⟨L, H, T, ⟨⟨hL, hH, hT2⟩, hL0, hH0, hT0⟩, rfl, cl, ch, ct, hb1⟩
      have hbA : Below ws.heap.size ws (ws.alloc (.cells #[.int .i64 10000] 3)) := (Below.refl _ _).alloc (Nat.le_refl _) _
      have hb01 : Below ws.heap.size ws W1 := hbA.trans (hb1.mono hbA.size)
      have hC1 := (hb1.block ws.heap.size (by simp)).trans (heap_alloc_new ws (.cells #[.int .i64 10000] 3))
      have hs1 : ws.heap.size < W1.heap.size := (Array.getElem?_eq_some_iff.1 hC1).1
      have hA1 := (hb01.block _ hlw).trans HAs.out
      have hw1 := Hbs.out.trans (hb01.mono Hbs.out.size)
      have hms1 := Hms.out.keeps (keeps_below hb01)
      have e1 : (ws.alloc (.cells #[.int .i64 10000] 3)).heap.size = ws.heap.size + 1 := by simp
      rw [e1] at hL0 hH0 hT0
      have Hms1 := Lib.hid hms1
      have Hw1 := Lib.hid hw1
      have HA1 := Lib.hid hA1
      have HC1 := Lib.hid hC1
      clear hms1 hw1 hA1 hC1 a0 a1 a2 a3 a4 hbA hb1 e1
      generalize ws.heap.size = CH at *
      have hkz : 0 ≤ (k : Int) ∧ (k : Int) ≤ 4 := by omega
      have hhb : (k : Int) ≤ hi ∧ hi ≤ 4 ∧ t.zones ≤ 4 := by have := Hhi.out; have := Hzn.out; omega
      obtain ⟨ps, hps⟩ : ∃ ps, ps = widerL t (k : Int) hi := ⟨_, rfl⟩
      have hpl : ps.length ≤ 20 := by
        rw [hps, wider_len]
        have h1 : ((k : Int) + 1).toNat ≤ 5 := by omega
        have h2 : (t.zones - hi).toNat ≤ 4 := by omega
        exact Nat.le_trans (Nat.mul_le_mul h1 h2) (by omega)
      have Hps := Lib.hid hps
      have hcha : cheapT t (k : Int) hi = ps.foldl (cheF t) 10000 := by rw [hps]; rfl
      have Hcha := Lib.hid hcha
      clear hps hcha
      gi_wp2_with fail
      refine wpIn_rangeFunc_ownH rfl (by omega) (gf := 105) (lb := #[.pointer (some ⟨L, 0, none⟩), .pointer (some ⟨H, 0, none⟩), .pointer (some ⟨T, 0, none⟩)]) rfl trivial (enters_of Try.func105 (by kernel_rfl) rfl)
        (wider_stops 2 (by omega) L H T (fun k => k = L ∨ k = H ∨ k = T) t (k : Int) hi ⟨by omega, by omega⟩ ⟨by omega, by omega, by omega⟩ ps Hps.out W1 (fun k hk => by rcases hk with rfl | rfl | rfl <;> assumption) ⟨.inl rfl, .inr (.inl rfl), .inr (.inr rfl), cl, ch, ct⟩) Keep.trans
        (fun W l o1 o2 hl ho _ _ j hj => World.putObj_heap_other (by rcases hj with rfl | rfl | rfl <;> omega)) (Below.refl _ _) (fun _ => rfl)
        (fun pre W => (W.heap[CH]? = some (.cells #[.int .i64 ((pre.map fun x => ps[x.1]).foldl (cheF t) 10000)] 3 (0, 0)) ∧ W.heap[w.heap.size]? = some (.cells #[.int .i64 t.zones, a, b, c, .int .i64 t.window] 32 (0, 0))) ∧ (Below w.heap.size w W ∧ (W1.heap.size ≤ W.heap.size ∧ OpenMarks w.heap.size W es)))
        (fun _ _ _ => False) ?hI (fun _ _ _ _ _ hs _ _ => hs) ?h0
        (fun y a' _ => a' = { tmps := #[.agg #[.int .i64 t.zones, a, b, c, .int .i64 t.window], .pointer (some ⟨w.heap.size, 0, none⟩), .int .i64 mo, .int .i64 (k : Int), .int .i64 hi, .pointer (some ⟨CH, 0, none⟩), .int .i64 ps[y.1].1, .int .i64 ps[y.1].2, .pointer (some ⟨w.heap.size, 0, none⟩), .int .i64 t.zones, .int .i64 (k : Int), .bool true, .int .i64 (k : Int), .int .i64 (k : Int), .int .i64 hi, .pointer (some ⟨w.heap.size, 0, none⟩), .int .i64 t.zones, .bool true, u18, u19, .agg #[.int .i64 t.zones, a, b, c, .int .i64 t.window], .int .i64 (k : Int), .int .i64 hi, .func (.func 105) #[] #[.pointer (some ⟨L, 0, none⟩), .pointer (some ⟨H, 0, none⟩), .pointer (some ⟨T, 0, none⟩)], .int .i64 ps[y.1].1, .int .i64 ps[y.1].2, undef, undef, undef, undef, undef, undef, undef, undef, undef, undef, u36, u37, u38, u39, undef], defers := [] })
        ?hAx ?assign ?body ?done ?stop
      case hI => exact OwnFrom.and (OwnFrom.and (box_ownF _) (box_ownF (fun _ => #[.int .i64 t.zones, a, b, c, .int .i64 t.window]))) (OwnFrom.and (ownFrom_below (Nat.le_refl _) (by have := Hw1.out.size; omega)) (OwnFrom.and size_own (OpenMarks.own fun d hd => (Array.getElem?_eq_some_iff.1 (Hms1.out.2 d hd).2).1)))
      case h0 => exact ⟨⟨HC1.out, HA1.out⟩, Hw1.out, Nat.le_refl _, Hms1.out⟩
      case hAx =>
        rintro y a' _ X Y row h hg hr
        exact h
      case assign =>
        rintro id pre y W K hI hK
        simp only [prE]
        gi_wp2
        exact hK _ _ (KeepsFrom.refl _ _) (Keep.refl _ _) hI rfl
      case body =>
        rintro id pre ⟨jx, hjx⟩ a' W hlW ⟨rc, hrec⟩ ⟨⟨hcx, hax⟩, hbw, hsz, hmw⟩ rfl hpre
        dsimp only
        have hqe : (pre ++ [(⟨jx, hjx⟩ : { j : Nat // j < ps.length })]).map (fun x => ps[x.1]) = pre.map (fun x => ps[x.1]) ++ [ps[jx]] := by simp
        have Hqe := Lib.hid hqe
        clear hqe
        obtain ⟨p, hp0⟩ : ∃ p, ps[jx] = p := ⟨_, rfl⟩
        have hpm : p ∈ widerL t (k : Int) hi := by rw [← Hps.out, ← hp0]; exact List.getElem_mem hjx
        rw [hp0] at Hqe ⊢
        have hpb := (mem_wider hkz.1).1 hpm
        obtain ⟨qs, hqs⟩ : ∃ qs, pre.map (fun x => ps[x.1]) = qs := ⟨_, rfl⟩
        rw [hqs] at Hqe hcx
        have hm := cheF_bd Hall.out qs 10000 (by omega) (by omega)
        obtain ⟨m, hmm⟩ : ∃ m, qs.foldl (cheF t) 10000 = m := ⟨_, rfl⟩
        rw [hmm] at hcx hm
        obtain ⟨n, hn⟩ : ∃ n : Nat, p.2 - p.1 = (n : Int) := ⟨(p.2 - p.1).toNat, by omega⟩
        have q : IntKind.i64.wrap (p.2 - p.1) = (n : Int) := by rw [hn]; exact IntWalk.i64_in _ (by omega)
        have hnl : n < t.singles.length := by have := Hlen.out; have := Hzn.out; omega
        obtain ⟨bb, oo, z, ⟨ca, rfl⟩, hx, dx, _⟩ := (HT.out.below hbw).singles.at_' (k := n) hnl
        have inl : (n : Int) < (t.singles.length : Int) := by omega
        have hst : cheF t m p = min m z := by
          unfold cheF singleAt
          rw [hn, Int.toNat_natCast, hx]
          rfl
        have Hst := Lib.hid hst
        have Hmm := Lib.hid hmm
        have Hcx := Lib.hid hcx
        have Hax := Lib.hid hax
        have Hbw := Lib.hid hbw
        have Hmw := Lib.hid hmw
        have qc := box_cells hcx 0
        have qt := box_cells hax 1
        simp only [List.getElem?_toArray, List.getElem?_cons_zero, List.getElem?_cons_succ] at qc qt
        have hd : Below W.heap.size W W.drew := (Below.refl _ _).drew
        clear hst hmm hcx hax hbw hmw hx hn hqs hpm hp0
        gi_wp2_with fail
        refine wpIn_region_pick [0, 1, 2, 3, 4, 5, 6, 7] [8, 9, 10] (fun i => i != 10) (fun w' => Below W.heap.size W w') (by kernel_rfl) (by kernel_rfl) (fun ⟨_, _, h⟩ => h) (fun _ _ _ _ _ h => h) hd (fun hne => ?_)
        have n0 := fun x : Meets (fun w' => Below W.heap.size W w') => cell_below x.property qc
        have n1 := fun x : Meets (fun w' => Below W.heap.size W w') => cell_below x.property qt
        have n2 := fun x : Meets (fun w' => Below W.heap.size W w') => cell_below x.property dx
        simp only [pick, pickN, List.filterMap_cons, List.filterMap_nil, List.getElem?_cons_zero, List.getElem?_cons_succ, Option.map_some]
        repeat (change wpQuiet _ _ _ _ (_ :: _) _; go_big_quiet_step (fail))
        refine wpQuiet_nil ?_
        clear n0 n1 n2 hne qc qt dx
        refine wpSeqP_step (fun K hK => ?_)
        go_simp
        have hba := hd.alloc hd.size (.cells #[.int .i64 m, .int .i64 z] 3)
        refine hK.out _ _ (fun _ => hba) ?_
        clear hK K
        refine wpSeqP_name (fun V => Below W.heap.size W V ∧ V.heap[W.heap.size]? = some (.cells #[.int .i64 m, .int .i64 z] 3 (0, 0))) ⟨hba, heap_alloc_new W.drew _⟩ (fun V hV => ?_)
        obtain ⟨hbV, hga⟩ := hV
        clear hba
        have g0 := box_cells hga 0
        have g1 := box_cells hga 1
        simp only [List.getElem?_toArray, List.getElem?_cons_zero, List.getElem?_cons_succ] at g0 g1
        refine wpSeqP_step (fun K hK => ?_)
        go_simp
        refine (least_two _ m z _ g0 g1).mono ?_
        rintro e w9 ⟨rfl, rfl⟩
        refine hK.out _ _ (fun _ => hbV) ?_
        clear hK K
        have hCa := (hbV.block _ (Array.getElem?_eq_some_iff.1 Hcx.out).1).trans Hcx.out
        have qc := box_cells hCa 0
        have fc := box_frozen hCa 0
        simp only [List.getElem?_toArray, List.getElem?_cons_zero, List.getElem?_cons_succ] at qc
        refine wpSeqP_step (fun K hK => ?_)
        go_simp
        refine hK.out _ _ (fun h => by cases h) ?_
        clear hK K
        refine wpSeqP_nil ?_
        have hW0 : CH < W1.heap.size := hs1
        have hchg : Chg (fun k => k = CH) W (V.setCell ⟨CH, 0, none⟩ (.int .i64 (min m z))) := (Chg.of_below hbV).trans (Chg.set (R := fun k => k = CH) V (p := ⟨CH, 0, none⟩) rfl _)
        refine ⟨hchg.keepsOthers.from _, hchg.keep (fun k hk => by rcases hk with rfl | rfl | rfl <;> (refine ⟨by omega, ?_⟩; intro h; omega)), ⟨⟨?_, ?_⟩, hchg.below Hbw.out Hbw.out.size (fun k hk => by have := Hbs.out.size; omega), Nat.le_trans hsz hchg.size, Hmw.out.keeps hchg.keepsOthers⟩⟩
        · rw [Hqe.out, List.foldl_append, Hmm.out]
          simp only [List.foldl_cons, List.foldl_nil]
          rw [Hst.out]
          exact blk_set hCa _
        · exact (hchg.block _ (Array.getElem?_eq_some_iff.1 Hax.out).1 (fun e => by have := Hbs.out.size; omega)).trans Hax.out
      case done =>
        rintro D xs W hD rfl ⟨⟨hcx, hax⟩, hbw, hsz, hmw⟩ hK
        rw [ups_map ps ps.length (Nat.le_refl _), List.take_length, ← Hcha.out] at hcx
        have hcb : 0 ≤ cheapT t (k : Int) hi ∧ cheapT t (k : Int) hi ≤ 10000 := by rw [Hcha.out]; exact cheF_bd Hall.out ps 10000 (by omega) (by omega)
        obtain ⟨cv, hcv⟩ : ∃ cv, cheapT t (k : Int) hi = cv := ⟨_, rfl⟩
        rw [hcv] at hcx hcb
        have Hcv := Lib.hid hcv
        have qc := box_cells hcx 0
        simp only [List.getElem?_toArray, List.getElem?_cons_zero, List.getElem?_cons_succ] at qc
        have q1 : IntKind.i64.wrap (hi + 1) = hi + 1 := IntWalk.i64_in _ (by omega)
        have Hax := Lib.hid hax
        have Hbw := Lib.hid hbw
        have Hmw := Lib.hid hmw
        clear hcv hcx hax hbw hmw
        gi_wp2
        refine ⟨⟨j + 1, hi + 1, max mo cv, D :: es, _, _, _, _, _, _, _, _, _, _, _, _, _, _, _, ⟨by have := Hhi.out; omega, by omega, ?_, by omega, Hbw.out, Hax.out, ?_⟩, rfl⟩, ?_⟩
        · have e3 : ((k + j : Nat) : Int) = hi := by have := Hhi.out; omega
          rw [deaK_succ, ← Hmj.out, e3, Hcv.out]
        · refine ⟨List.nodup_cons.2 ⟨fun hm => ?_, Hms1.out.1⟩, fun d hd => ?_⟩
          · have h1 := (Array.getElem?_eq_some_iff.1 (Hms1.out.2 D hm).2).1
            omega
          · rcases List.mem_cons.1 hd with rfl | hd
            · exact ⟨by have := Hw1.out.size; omega, hK⟩
            · exact Hmw.out.2 d hd
        · simp [intOf]
          have := Hhi.out
          omega
      case stop =>
        rintro D c pre W _ _ h _
        exact h.elim
    · have ih : ¬ hi < t.zones := by have := Hzn.out; have := Hhi.out; omega
      have hje : k + j = zn := by omega
      have q1 : IntKind.i64.wrap ((k : Int) + 1) = (k : Int) + 1 := IntWalk.i64_in _ (by omega)

      gi_wp2
      refine ⟨⟨k + 1, es, mo, ⟨by omega, ?_, hmjb, Hbs.out, (Array.getElem?_eq_some_iff.1 HAs.out).2, Hms.out⟩, ⟨rfl, by omega⟩, rfl⟩, ?_⟩
      · rw [Hmj.out, deaN_succ, ← Hmo.out]
        unfold deaRow deaK
        rw [Hzn.out, Int.toNat_natCast, show j = zn - k by omega]
      · simp [intOf]
        omega
  · have ik : ¬ (k : Int) < t.zones := by have := Hzn.out; omega
    have hkz : k = zn := by omega
    gi_wp2
    refine leaves_marks w.heap.size ds wr hmk (fun W' hb' hk' => ⟨.int .i64 most, by simp [results, Try.results61, go_sem], ?_, hbr.trans hb'⟩)
    have : deaT t = most := by
      rw [Hmo.out, hkz]
      unfold deaT deaN
      rw [Hzn.out, Int.toNat_natCast]
    rw [this]
end Go.Proofs.Ytmbkpfkkohpnkaa
