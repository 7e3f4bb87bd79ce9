import Derived.Test.YtmbkpfkkohpnkaaSw
import Derived.Test.YtmbkpfkkohpnkaaRs
import Derived.Laws.StructEq
set_option linter.unusedVariables false
set_option linter.unusedSimpArgs false
namespace Go.Proofs.Ytmbkpfkkohpnkaa
open Go Go.Proofs Go.RowKit

theorem info_tpsR : (Try.prog.info? 75).map (fun i => (i.zero, i.size, i.bytes)) = some (some (.agg #[.int .i64 0, .int .i64 0, .int .i64 0, .int .i64 0, .int .i64 0, .int .i64 0, .int .i64 0]), 7, 56) := by kernel_rfl
theorem rng_fields : (Try.prog.fieldsOf 61).toList.map (fun f => (f.name, f.type, f.offset)) = [("Lo", 3, 0), ("Hi", 3, 1)] := by kernel_rfl
theorem rng_under : Try.prog.underlying 61 = some (.struct (Try.prog.fieldsOf 61)) := by kernel_rfl
theorem rng_held : Try.prog.stoodInHeld 61 = false := by kernel_rfl
theorem rng_guardN (w : World) (x y : Operand) (xs ys : Array Value) : (eqGuard .neq 61 x y (.agg xs) (.agg ys)).run Try.prog w = .ok () w := run_eqGuard_agg w _ _ _ _ _ _ (by kernel_rfl)
theorem rng_equal (w : World) (a b : Int) : (Op.equal 61 (.agg #[.int .i64 a, .int .i64 b]) (.agg #[.int .i64 a, .int .i64 b])).run Try.prog w = .ok true w := by
  unfold Op.equal Op.maxDepth
  rw [run_equalIn_agg w 9999 _ _ _ rng_under rng_held]
  have hf := rng_fields
  match h : (Try.prog.fieldsOf 61).toList with
  | [f, g] =>
    rw [h] at hf
    simp only [List.map_cons, List.map_nil, List.cons.injEq, Prod.mk.injEq, and_true] at hf
    obtain ⟨⟨n1, t1, o1⟩, n2, t2, o2⟩ := hf
    simp only [Op.eqFields, n1, n2, t1, t2, o1, o2]
    simp [go_sem]
  | [] => rw [h] at hf; simp at hf
  | [f] => rw [h] at hf; simp at hf
  | f :: g :: k :: r => rw [h] at hf; simp at hf
theorem rng_neq (w : World) (a b : Int) : (binOp .neq 61 (.agg #[.int .i64 a, .int .i64 b]) (.agg #[.int .i64 a, .int .i64 b])).run Try.prog w = .ok (.bool false) w := by
  simp only [binOp, Sem.run_bind, rng_equal, Result.andThen_ok, Sem.run_pure, Bool.not_true]
theorem ridesC_same {l m : List Tp} (h : ∀ x, x ∈ m ↔ x ∈ l) (c : Int) : onceL (ridesC m c) = onceL (ridesC l c) := by
  refine rising_unique (onceL_rising _) (onceL_rising _) fun x => ?_
  rw [mem_onceL, mem_onceL, mem_ridesC, mem_ridesC]
  constructor
  · rintro ⟨y, h1, h2⟩; exact ⟨y, (h y).1 h1, h2⟩
  · rintro ⟨y, h1, h2⟩; exact ⟨y, (h y).2 h1, h2⟩
theorem hasB_same {l m : List Tp} (h : ∀ x, x ∈ m ↔ x ∈ l) (a b : Int) : hasB m a b = hasB l a b := by
  unfold hasB
  rw [Bool.eq_iff_iff, List.any_eq_true, List.any_eq_true]
  constructor
  · rintro ⟨y, h1, h2⟩; exact ⟨y, (h y).1 h1, h2⟩
  · rintro ⟨y, h1, h2⟩; exact ⟨y, (h y).2 h1, h2⟩
theorem dues_same {t : Tar} {l m : List Tp} (h : ∀ x, x ∈ m ↔ x ∈ l) : duesL t m = duesL t l := by
  unfold duesL
  simp only [ridesC_same h]
theorem miss_same {l m : List Tp} (cs : List Int) (h : ∀ x, x ∈ m ↔ x ∈ l) : missLL m cs = missLL l cs := by
  unfold missLL missL
  simp only [hasB_same h]
theorem taps_same {t : Tar} {l m : List Tp} {cs : List Int} (h : ∀ x, x ∈ m ↔ x ∈ l) (hl : TapsOk t l cs) (hm : m.length ≤ 40) : TapsOk t m cs :=
  ⟨hl.tar, hm, hl.four, hl.cnt, fun x hx => hl.taps x ((h x).1 hx), hl.apart.sub fun x hx => (h x).1 hx, fun c hc => by rw [ridesC_same h]; exact hl.cards c hc⟩
theorem totals_same {t : Tar} {l m : List Tp} (cs : List Int) (h : ∀ x, x ∈ m ↔ x ∈ l) : totalLo t m = totalLo t l ∧ totalHi t m cs = totalHi t l cs := by
  have h1 : totalLo t m = totalLo t l := by unfold totalLo; rw [dues_same h]
  exact ⟨h1, by unfold totalHi lostN; rw [h1, miss_same cs h]⟩
set_option maxRecDepth 100000 in
set_option maxHeartbeats 4000000 in
theorem Twice_law (t : Tar) (a b c0 v z u : Value) (l : List Tp) (cs ws : List Int) (w : World) (hT : TarAt w a b c0 t) (hv : TpsAt w v l) (hc : NumsAt .i64 w z cs) (hu : NumsAt .u16 w u ws) (hw : ∀ x ∈ ws, 0 ≤ x ∧ x ≤ 65535) :
    Calls Try.prog 9 #[.agg #[.int .i64 t.zones, a, b, c0, .int .i64 t.window], v, z, u] w (Gives w (.bool true)) := by
  obtain ⟨Au, cu, rfl, _, _⟩ := hu.form
  obtain ⟨i0, hi0, hz0, hz1, hz2⟩ := info_parts info_tpsR
  obtain ⟨K, hK⟩ : ∃ K, ws.length = K := ⟨_, rfl⟩
  rw [hK] at hu ⊢
  have HKw := Lib.hid hK
  have Hu := Lib.hid hu
  have Hw := Lib.hid hw
  clear hu hw hK
  obtain ⟨Av, cv, rfl, _, _⟩ := hv.form
  obtain ⟨Az, cz, rfl, _, _⟩ := hc.form
  obtain ⟨N, hN⟩ : ∃ N, l.length = N := ⟨_, rfl⟩
  obtain ⟨M, hM⟩ : ∃ M, cs.length = M := ⟨_, rfl⟩
  rw [hN] at hv ⊢
  rw [hM] at hc ⊢
  have HN := Lib.hid hN
  have HM := Lib.hid hM
  have HT := Lib.hid hT
  have Hv := Lib.hid hv
  have Hc := Lib.hid hc
  clear hT hv hc hN hM
  go_enter Try.func9, Try.ntmps9
  go_upto_region 1 with (fail)
  refine wp_name (fun W => Below w.heap.size w W ∧ W.heap[w.heap.size]? = some (.cells #[.int .i64 t.zones, a, b, c0, .int .i64 t.window] 24 (0, 0))) ⟨(Below.refl _ _).alloc (Nat.le_refl _) _, heap_alloc_new w _⟩ (fun W0 hW => ?_)
  obtain ⟨hb0, hx0⟩ := hW
  have HB0 := Lib.hid hb0
  have HX0 := Lib.hid hx0
  clear hb0 hx0
  have aq := box_cells HX0.out
  have a0 := aq 0
  have a1 := aq 1
  have a2 := aq 2
  have a3 := aq 3
  have a4 := aq 4
  simp only [List.getElem?_toArray, List.getElem?_cons_zero, List.getElem?_cons_succ] at a0 a1 a2 a3 a4
  clear aq
  go_wp2_with fail
  refine (Thin_any t a b c0 W0 (HT.out.below HB0.out)).mono ?_
  rintro e w1 ⟨rfl, hb1⟩
  clear a0 a1 a2 a3 a4
  have HB1 := Lib.hid (HB0.out.trans (hb1.mono HB0.out.size))
  have HX1 := Lib.hid ((hb1.block _ (Array.getElem?_eq_some_iff.1 HX0.out).1).trans HX0.out)
  clear hb1
  cases hth : thinB t with
  | false =>
    clear hth
    go_wp2_with fail
    refine (awake_any _).mono ?_
    rintro e wz2 ⟨rfl, hbz2⟩
    go_wp2
    go_ret
    exact ⟨rfl, HB1.out.trans (hbz2.mono HB1.out.size)⟩
  | true =>
    have Hth := Lib.hid hth
    clear hth
    by_cases h45 : 45 < N
    · have i45 : (45 : Int) < (N : Int) := by omega
      clear h45
      go_wp2_with fail
      refine (awake_any _).mono ?_
      rintro e wz3 ⟨rfl, hbz3⟩
      go_wp2
      go_ret
      exact ⟨rfl, HB1.out.trans (hbz3.mono HB1.out.size)⟩
    have i45 : ¬ (45 : Int) < (N : Int) := by omega
    have hN45 : N ≤ 45 := by omega
    clear h45
    by_cases h6 : 6 < M
    · have i6 : (6 : Int) < (M : Int) := by omega
      clear h6
      go_wp2_with fail
      refine (awake_any _).mono ?_
      rintro e wz4 ⟨rfl, hbz4⟩
      go_wp2
      go_ret
      exact ⟨rfl, HB1.out.trans (hbz4.mono HB1.out.size)⟩
    have i6 : ¬ (6 : Int) < (M : Int) := by omega
    have hM6 : M ≤ 6 := by omega
    clear h6
    have aq := box_cells HX1.out
    have a0 := aq 0
    have a1 := aq 1
    have a2 := aq 2
    have a3 := aq 3
    have a4 := aq 4
    simp only [List.getElem?_toArray, List.getElem?_cons_zero, List.getElem?_cons_succ] at a0 a1 a2 a3 a4
    clear aq
    go_wp2_with fail
    refine (taps_law t a b c0 _ _ l cs _ (HT.out.below HB1.out) (Hv.out.below HB1.out) (Hc.out.below HB1.out) (by have := HN.out; omega)).mono ?_
    rintro e w2 ⟨rfl, hb2⟩
    clear a0 a1 a2 a3 a4
    have HB5 := Lib.hid (HB1.out.trans (hb2.mono HB1.out.size))
    have HX5 := Lib.hid ((hb2.block _ (Array.getElem?_eq_some_iff.1 HX1.out).1).trans HX1.out)
    clear hb2
    obtain ⟨F, hF⟩ : ∃ F, tapsF t l cs = F := ⟨_, rfl⟩
    rw [hF]
    have HF := Lib.hid hF
    clear hF
    by_cases h0 : F = 0
    rotate_left
    · have hd : (F != 0) = true := by simpa using h0
      clear h0
      go_wp2_with fail
      refine (awake_any _).mono ?_
      rintro e wz6 ⟨rfl, hbz6⟩
      go_wp2
      go_ret
      exact ⟨rfl, HB5.out.trans (hbz6.mono HB5.out.size)⟩
    subst h0
    have hok := tapsF_ok.1 HF.out
    have hN40 : N ≤ 40 := by have := hok.many; have := HN.out; omega
    have hml : (missLL l cs).length = 4 := by simp [missLL, hok.four]
    have Hok := Lib.hid hok
    have Hml := Lib.hid hml
    clear hok hml
    have hb0 : Below w2.heap.size w2 (w2.alloc (.cells #[] 75)) := (Below.refl _ _).alloc (Nat.le_refl _) _
    have ho : (w2.alloc (.cells #[] 75)).ownsRow w2.heap.size 75 7 (.slice (some ⟨w2.heap.size, 0, none⟩) 0 0) 0 [] := World.ownsRow_lit w2 #[] 0 (Nat.le_refl _) (by simp [maxLen]) (by simp)
    have hsrc : Src (w2.alloc (.cells #[] 75)) Av N 7 (l.flatMap tpC) := by have := tps_src ((by have h := Hv.out.below HB5.out; rw [← HN.out] at h; exact h : TpsAt w2 (.slice Av l.length cv) l).below hb0); rw [HN.out] at this; exact this
    go_wp2_with (at_builtin; refine wpList_append_src _ rfl (.tmp 47) (.tmp 48) 46 rfl w2.heap.size 75 i0 _ 7 56 Try.underlying46 hi0 hz0 hz1 hz2 rfl (by omega) _ 0 [] rfl ho Av N cv (l.flatMap tpC) rfl hsrc (tps_one l) (by simp [maxLen]; omega) (by omega) (by simp) ?_; intro v1 wA hown1 hg1 hat1)
    rw [Nat.zero_add, List.nil_append] at hown1
    have hbo := below_grown hb0 hg1 (by simp) ho (Nat.le_refl _)
    obtain ⟨A, c, rfl⟩ := own_form hown1
    have Hbo := Lib.hid hbo
    have Hown := Lib.hid hown1
    clear hown1 hg1 hat1 hb0 ho hsrc hbo
    go_wp2
    go_loopw [10] (fun s wr => ∃ (i : Nat) (L : List Tp), i ≤ N ∧ L.Perm l ∧ s = .int .i64 i ∧ Below w2.heap.size w2 wr ∧ wr.ownsRow w2.heap.size 75 7 (.slice A N c) N (L.flatMap tpC)) (fun s wr => N - (intOf s).toNat)
    case atStart => exact ⟨0, l, by omega, .refl _, rfl, Hbo.out, Hown.out⟩
    case round =>
      obtain ⟨i, L, hi, hL, rfl, hbr, hor⟩ := hrel
      have Hbr := Lib.hid hbr
      have Hor := Lib.hid hor
      have HLp := Lib.hid hL
      have HL := Lib.hid (hL.length_eq.trans HN.out)
      clear hbr hor hL Hown Hbo
      by_cases hlt : i < N
      · obtain ⟨g, rfl, hgb, hgl⟩ := own_some Hor.out (by omega)
        have ii : (i : Int) < (N : Int) := by omega
        go_wp2_with fail
        refine (word_any _ ws i _ ((Hu.out.below HB5.out).below Hbr.out) Hw.out (by omega)).mono ?_
        rintro e w5 ⟨rfl, hb5⟩
        have hwb := wordL_bd Hw.out i
        obtain ⟨m, hm⟩ : ∃ m : Nat, wordL ws i = (m : Int) := ⟨(wordL ws i).toNat, by omega⟩
        rw [hm] at hwb ⊢
        have Hb5 := Lib.hid (Hbr.out.trans (hb5.mono Hbr.out.size))
        have Ho5 := Lib.hid (own_below Hor.out hb5)
        clear hb5 hm Hbr Hor
        obtain ⟨wr, rfl⟩ : ∃ W : World, W = w5 := ⟨_, rfl⟩
        have Hbr := Lib.hid Hb5.out
        have Hor := Lib.hid Ho5.out
        clear Hb5 Ho5
        have ez : ¬ ((N : Int) = 0) := by omega
        have ezb : ((N : Int) == 0) = false := by simpa using ez
        have er : Int.tmod (m : Int) (N : Int) = ((m % N : Nat) : Int) := by rw [Int.tmod_eq_emod_of_nonneg (by omega)]; rfl
        obtain ⟨j, hj0⟩ : ∃ j, m % N = j := ⟨_, rfl⟩
        have hjN : j < N := by rw [← hj0]; exact Nat.mod_lt _ (by omega)
        rw [hj0] at er
        have ew : IntKind.i64.wrap (j : Int) = (j : Int) := IntWalk.i64_in _ (by omega)
        have ij : (j : Int) < (N : Int) := by omega
        clear hj0 hwb
        have hi : ∃ x, L[i]? = some x := ⟨_, List.getElem?_eq_getElem (by have := HL.out; omega)⟩
        have hj : ∃ y, L[j]? = some y := ⟨_, List.getElem?_eq_getElem (by have := HL.out; omega)⟩
        obtain ⟨x, hi⟩ := hi
        obtain ⟨y, hj⟩ := hj
        have hLc : (L.flatMap tpC).length = L.length * 7 := flat_length (f := tpC) (n := 7) (fun _ => rfl) L
        have hiL := (List.getElem?_eq_some_iff.1 hi).1
        have hjL := (List.getElem?_eq_some_iff.1 hj).1
        have Hcx := Lib.hid (fun o (ho : o < 7) => (Hor.out.cellAt (i * 7 + o) (by omega)).trans (flat_get (f := tpC) (n := 7) (fun _ => rfl) hi ho))
        have Hcy := Lib.hid (fun o (ho : o < 7) => (Hor.out.cellAt (j * 7 + o) (by omega)).trans (flat_get (f := tpC) (n := 7) (fun _ => rfl) hj ho))
        have Hperm := Lib.hid (swap_perm hi hj)
        clear hi hj
        have cx0 : wr.cell? ⟨g, i * 7, none⟩ = some (.int .i64 x.machine) := Hcx.out 0 (by omega)
        have cy0 : wr.cell? ⟨g, j * 7, none⟩ = some (.int .i64 y.machine) := Hcy.out 0 (by omega)
        have cx1 : wr.cell? ⟨g, i * 7 + 1, none⟩ = some (.int .i64 x.number) := Hcx.out 1 (by omega)
        have cy1 : wr.cell? ⟨g, j * 7 + 1, none⟩ = some (.int .i64 y.number) := Hcy.out 1 (by omega)
        have cx2 : wr.cell? ⟨g, i * 7 + 2, none⟩ = some (.int .i64 x.card) := Hcx.out 2 (by omega)
        have cy2 : wr.cell? ⟨g, j * 7 + 2, none⟩ = some (.int .i64 y.card) := Hcy.out 2 (by omega)
        have cx3 : wr.cell? ⟨g, i * 7 + 3, none⟩ = some (.int .i64 x.ride.day) := Hcx.out 3 (by omega)
        have cy3 : wr.cell? ⟨g, j * 7 + 3, none⟩ = some (.int .i64 y.ride.day) := Hcy.out 3 (by omega)
        have cx4 : wr.cell? ⟨g, i * 7 + 4, none⟩ = some (.int .i64 x.ride.minute) := Hcx.out 4 (by omega)
        have cy4 : wr.cell? ⟨g, j * 7 + 4, none⟩ = some (.int .i64 y.ride.minute) := Hcy.out 4 (by omega)
        have cx5 : wr.cell? ⟨g, i * 7 + 5, none⟩ = some (.int .i64 x.ride.low) := Hcx.out 5 (by omega)
        have cy5 : wr.cell? ⟨g, j * 7 + 5, none⟩ = some (.int .i64 y.ride.low) := Hcy.out 5 (by omega)
        have cx6 : wr.cell? ⟨g, i * 7 + 6, none⟩ = some (.int .i64 x.ride.high) := Hcx.out 6 (by omega)
        have cy6 : wr.cell? ⟨g, j * 7 + 6, none⟩ = some (.int .i64 y.ride.high) := Hcy.out 6 (by omega)
        go_upto_region 8 with (fail)
        refine wp_region_noPanic ?_
        refine wp_region_pickA [0, 1, 2, 3, 4, 5, 6, 8, 9, 10] 6 (fun _ => true) (fun _ => True) (by kernel_rfl) (by kernel_rfl) (fun _ _ _ _ _ h => h) trivial (fun hne => ?_)
        simp only [pick, pickN, List.filterMap_cons, List.filterMap_nil, List.getElem?_cons_zero, List.getElem?_cons_succ, Option.map_some]
        repeat (change wpQuiet _ _ _ _ (_ :: _) _; go_big_quiet_step (fail))
        refine wpQuiet_nil ?_
        clear hne
        refine wpAnyF_weak (S := fun w' => Below wr.heap.size wr w') (kp := fun i => !(i == 13 || i == 14 || i == 15)) _ _ _ _ ?_
        refine wpAnyF_pick (by kernel_rfl) (fun _ _ _ _ _ h => h) 4 [7, 11] _ _ _ (by kernel_rfl) (Below.refl _ _).drew ?_
        have hne2 : Nonempty (Meets (fun w' => Below wr.heap.size wr w')) := ⟨⟨wr, Below.refl _ _⟩⟩
        have nx0 := fun X : Meets (fun w' => Below wr.heap.size wr w') => cell_below X.property cx0
        have ny0 := fun X : Meets (fun w' => Below wr.heap.size wr w') => cell_below X.property cy0
        have nx1 := fun X : Meets (fun w' => Below wr.heap.size wr w') => cell_below X.property cx1
        have ny1 := fun X : Meets (fun w' => Below wr.heap.size wr w') => cell_below X.property cy1
        have nx2 := fun X : Meets (fun w' => Below wr.heap.size wr w') => cell_below X.property cx2
        have ny2 := fun X : Meets (fun w' => Below wr.heap.size wr w') => cell_below X.property cy2
        have nx3 := fun X : Meets (fun w' => Below wr.heap.size wr w') => cell_below X.property cx3
        have ny3 := fun X : Meets (fun w' => Below wr.heap.size wr w') => cell_below X.property cy3
        have nx4 := fun X : Meets (fun w' => Below wr.heap.size wr w') => cell_below X.property cx4
        have ny4 := fun X : Meets (fun w' => Below wr.heap.size wr w') => cell_below X.property cy4
        have nx5 := fun X : Meets (fun w' => Below wr.heap.size wr w') => cell_below X.property cx5
        have ny5 := fun X : Meets (fun w' => Below wr.heap.size wr w') => cell_below X.property cy5
        have nx6 := fun X : Meets (fun w' => Below wr.heap.size wr w') => cell_below X.property cx6
        have ny6 := fun X : Meets (fun w' => Below wr.heap.size wr w') => cell_below X.property cy6
        simp only [pick, pickN, List.filterMap_cons, List.filterMap_nil, List.getElem?_cons_zero, List.getElem?_cons_succ, Option.map_some]
        repeat (change wpQuiet _ _ _ _ (_ :: _) _; go_big_quiet_step (fail))
        refine wpQuiet_nil ?_
        clear hne2 nx0 ny0 cx0 cy0 nx1 ny1 cx1 cy1 nx2 ny2 cx2 cy2 nx3 ny3 cx3 cy3 nx4 ny4 cx4 cy4 nx5 ny5 cx5 cy5 nx6 ny6 cx6 cy6
        refine wpAnyF_name (fun W => W.ownsRow w2.heap.size 75 7 (.slice (some ⟨g, 0, none⟩) N c) N (L.flatMap tpC) ∧ Below w2.heap.size w2 W ∧ Below wr.heap.size wr W) ⟨own_below Hor.out (Below.refl _ _).drew, Hbr.out.drew, (Below.refl _ _).drew⟩ (fun W hW => ?_)
        obtain ⟨W1, W2, W4⟩ := hW
        have HB9 := Lib.hid W4
        have HW1 := Lib.hid W1
        have HW2 := Lib.hid W2
        clear W1 W2 W4
        have hls : (L.flatMap tpC).length = N * 7 := by
          rw [flat_length (f := tpC) (n := 7) (fun _ => rfl)]
          try simp only [List.length_set]
          rw [HL.out]
        have d0 := HW1.out.cellAt (i * 7) (by omega)
        obtain ⟨u0, e0⟩ : ∃ u, (L.flatMap tpC)[i * 7]? = some u := ⟨_, List.getElem?_eq_getElem (by rw [hls]; omega)⟩
        rw [e0] at d0
        have d1 := HW1.out.cellAt (i * 7 + 1) (by omega)
        obtain ⟨u1, e1⟩ : ∃ u, (L.flatMap tpC)[i * 7 + 1]? = some u := ⟨_, List.getElem?_eq_getElem (by rw [hls]; omega)⟩
        rw [e1] at d1
        have d2 := HW1.out.cellAt (i * 7 + 2) (by omega)
        obtain ⟨u2, e2⟩ : ∃ u, (L.flatMap tpC)[i * 7 + 2]? = some u := ⟨_, List.getElem?_eq_getElem (by rw [hls]; omega)⟩
        rw [e2] at d2
        have d3 := HW1.out.cellAt (i * 7 + 3) (by omega)
        obtain ⟨u3, e3⟩ : ∃ u, (L.flatMap tpC)[i * 7 + 3]? = some u := ⟨_, List.getElem?_eq_getElem (by rw [hls]; omega)⟩
        rw [e3] at d3
        have d4 := HW1.out.cellAt (i * 7 + 4) (by omega)
        obtain ⟨u4, e4⟩ : ∃ u, (L.flatMap tpC)[i * 7 + 4]? = some u := ⟨_, List.getElem?_eq_getElem (by rw [hls]; omega)⟩
        rw [e4] at d4
        have d5 := HW1.out.cellAt (i * 7 + 5) (by omega)
        obtain ⟨u5, e5⟩ : ∃ u, (L.flatMap tpC)[i * 7 + 5]? = some u := ⟨_, List.getElem?_eq_getElem (by rw [hls]; omega)⟩
        rw [e5] at d5
        have d6 := HW1.out.cellAt (i * 7 + 6) (by omega)
        obtain ⟨u6, e6⟩ : ∃ u, (L.flatMap tpC)[i * 7 + 6]? = some u := ⟨_, List.getElem?_eq_getElem (by rw [hls]; omega)⟩
        rw [e6] at d6
        have fz := fun o => HW1.out.frozenAt o
        clear hls e0 e1 e2 e3 e4 e5 e6
        refine wpAnyF_one (i := 12) (by kernel_rfl) rfl (fun K hK => ?_)
        go_simp
        refine hK.out _ _ (fun _ => HB9.out) ?_
        clear hK K
        refine wpAnyF_one (i := 13) (by kernel_rfl) rfl (fun K hK => ?_)
        go_simp
        refine hK.out _ _ (fun h => by cases h) ?_
        clear hK K d0 d1 d2 d3 d4 d5 d6 fz
        have hO1 := (((((((HW1.out.stored (i * 7) (.int .i64 y.machine)).1.stored (i * 7 + 1) (.int .i64 y.number)).1.stored (i * 7 + 2) (.int .i64 y.card)).1.stored (i * 7 + 3) (.int .i64 y.ride.day)).1.stored (i * 7 + 4) (.int .i64 y.ride.minute)).1.stored (i * 7 + 5) (.int .i64 y.ride.low)).1.stored (i * 7 + 6) (.int .i64 y.ride.high)).1
        rw [tp_setC y hiL] at hO1
        refine wpAnyF_name (fun V => V.ownsRow w2.heap.size 75 7 (.slice (some ⟨g, 0, none⟩) N c) N ((L.set i y).flatMap tpC) ∧ Below w2.heap.size w2 V) ⟨hO1, ((((((((((((((HW2.out).setCell (p := ⟨g, i * 7, none⟩) hgb (.int .i64 y.machine))).setCell (p := ⟨g, i * 7 + 1, none⟩) hgb (.int .i64 y.number))).setCell (p := ⟨g, i * 7 + 2, none⟩) hgb (.int .i64 y.card))).setCell (p := ⟨g, i * 7 + 3, none⟩) hgb (.int .i64 y.ride.day))).setCell (p := ⟨g, i * 7 + 4, none⟩) hgb (.int .i64 y.ride.minute))).setCell (p := ⟨g, i * 7 + 5, none⟩) hgb (.int .i64 y.ride.low))).setCell (p := ⟨g, i * 7 + 6, none⟩) hgb (.int .i64 y.ride.high))⟩ (fun V hV => ?_)
        obtain ⟨V1, V2⟩ := hV
        clear hO1
        have HV1 := Lib.hid V1
        have HV2 := Lib.hid V2
        clear V1 V2
        have hls : ((L.set i y).flatMap tpC).length = N * 7 := by
          rw [flat_length (f := tpC) (n := 7) (fun _ => rfl)]
          try simp only [List.length_set]
          rw [HL.out]
        have d0 := HV1.out.cellAt (j * 7) (by omega)
        obtain ⟨u0, e0⟩ : ∃ u, ((L.set i y).flatMap tpC)[j * 7]? = some u := ⟨_, List.getElem?_eq_getElem (by rw [hls]; omega)⟩
        rw [e0] at d0
        have d1 := HV1.out.cellAt (j * 7 + 1) (by omega)
        obtain ⟨u1, e1⟩ : ∃ u, ((L.set i y).flatMap tpC)[j * 7 + 1]? = some u := ⟨_, List.getElem?_eq_getElem (by rw [hls]; omega)⟩
        rw [e1] at d1
        have d2 := HV1.out.cellAt (j * 7 + 2) (by omega)
        obtain ⟨u2, e2⟩ : ∃ u, ((L.set i y).flatMap tpC)[j * 7 + 2]? = some u := ⟨_, List.getElem?_eq_getElem (by rw [hls]; omega)⟩
        rw [e2] at d2
        have d3 := HV1.out.cellAt (j * 7 + 3) (by omega)
        obtain ⟨u3, e3⟩ : ∃ u, ((L.set i y).flatMap tpC)[j * 7 + 3]? = some u := ⟨_, List.getElem?_eq_getElem (by rw [hls]; omega)⟩
        rw [e3] at d3
        have d4 := HV1.out.cellAt (j * 7 + 4) (by omega)
        obtain ⟨u4, e4⟩ : ∃ u, ((L.set i y).flatMap tpC)[j * 7 + 4]? = some u := ⟨_, List.getElem?_eq_getElem (by rw [hls]; omega)⟩
        rw [e4] at d4
        have d5 := HV1.out.cellAt (j * 7 + 5) (by omega)
        obtain ⟨u5, e5⟩ : ∃ u, ((L.set i y).flatMap tpC)[j * 7 + 5]? = some u := ⟨_, List.getElem?_eq_getElem (by rw [hls]; omega)⟩
        rw [e5] at d5
        have d6 := HV1.out.cellAt (j * 7 + 6) (by omega)
        obtain ⟨u6, e6⟩ : ∃ u, ((L.set i y).flatMap tpC)[j * 7 + 6]? = some u := ⟨_, List.getElem?_eq_getElem (by rw [hls]; omega)⟩
        rw [e6] at d6
        have fz := fun o => HV1.out.frozenAt o
        clear hls e0 e1 e2 e3 e4 e5 e6
        refine wpAnyF_one (i := 14) (by kernel_rfl) rfl (fun K hK => ?_)
        go_simp
        refine hK.out _ _ (fun h => by cases h) ?_
        clear hK K
        refine wpAnyF_one (i := 15) (by kernel_rfl) rfl (fun K hK => ?_)
        go_simp
        refine hK.out _ _ (fun h => by cases h) ?_
        clear hK K d0 d1 d2 d3 d4 d5 d6 fz
        refine wpAnyF_done (by kernel_rfl) ?_ _
        refine NoPanic.normal ?_
        have hO2 := (((((((HV1.out.stored (j * 7) (.int .i64 x.machine)).1.stored (j * 7 + 1) (.int .i64 x.number)).1.stored (j * 7 + 2) (.int .i64 x.card)).1.stored (j * 7 + 3) (.int .i64 x.ride.day)).1.stored (j * 7 + 4) (.int .i64 x.ride.minute)).1.stored (j * 7 + 5) (.int .i64 x.ride.low)).1.stored (j * 7 + 6) (.int .i64 x.ride.high)).1
        rw [tp_setC x (by rw [List.length_set]; exact hjL)] at hO2
        have HO2 := Lib.hid hO2
        have HB2 := Lib.hid (((((((((((((((HV2.out).setCell (p := ⟨g, j * 7, none⟩) hgb (.int .i64 x.machine))).setCell (p := ⟨g, j * 7 + 1, none⟩) hgb (.int .i64 x.number))).setCell (p := ⟨g, j * 7 + 2, none⟩) hgb (.int .i64 x.card))).setCell (p := ⟨g, j * 7 + 3, none⟩) hgb (.int .i64 x.ride.day))).setCell (p := ⟨g, j * 7 + 4, none⟩) hgb (.int .i64 x.ride.minute))).setCell (p := ⟨g, j * 7 + 5, none⟩) hgb (.int .i64 x.ride.low))).setCell (p := ⟨g, j * 7 + 6, none⟩) hgb (.int .i64 x.ride.high)))
        clear hO2 hLc
        go_wp2
        go_roundw
        case rel => exact ⟨i + 1, (L.set i y).set j x, by omega, Hperm.out.trans HLp.out, by go_num, HB2.out, HO2.out⟩
        case measure => simp [intOf]; omega
      · have ii : ¬ (i : Int) < (N : Int) := by omega
        have HLm := Lib.hid (fun r => HLp.out.mem_iff (a := r))
        go_wp2
        go_loopw [9, 12] (fun o s wr => ∃ (k : Nat) (X : List Tp) (A : Option Addr) (c n : Nat), k ≤ N ∧ n = X.length ∧ n ≤ 40 ∧ (∀ r, r ∈ X ↔ r ∈ l) ∧ o = .slice A n c ∧ s = .int .i64 k ∧ Below w2.heap.size w2 wr ∧ wr.ownsRow w2.heap.size 75 7 (.slice A n c) n (X.flatMap tpC)) (fun o s wr => N - (intOf s).toNat)
        case atStart => exact ⟨0, L, A, c, N, by omega, HL.out.symm, by omega, HLm.out, rfl, rfl, Hbr.out, Hor.out⟩
        case round =>
          clear Hbr Hor HLp HLm HL ii hlt hi
          obtain ⟨k, X, A2, c2, n, hk, hn, hnl, hX, rfl, rfl, hbr, hor⟩ := hrel
          have Hbr := Lib.hid hbr
          have Hor := Lib.hid hor
          have Hn := Lib.hid hn
          have HX := Lib.hid hX
          clear hbr hor hn hX
          by_cases hlt : k < N ∧ n < 40
          · have ik : (k : Int) < (N : Int) := by omega
            have in40 : (n : Int) < 40 := by omega
            have wk : IntKind.i64.wrap ((k : Int) + 1) = ((k + 1 : Nat) : Int) := IntWalk.i64_in _ (by omega)
            go_wp2_with fail
            rw [show (k : Int) + 1 = ((k + 1 : Nat) : Int) by omega]
            refine (word_any _ ws (k + 1) _ ((Hu.out.below HB5.out).below Hbr.out) Hw.out (by omega)).mono ?_
            rintro e w5 ⟨rfl, hb5⟩
            have hwb := wordL_bd Hw.out (k + 1)
            obtain ⟨m, hm⟩ : ∃ m : Nat, wordL ws (k + 1) = (m : Int) := ⟨(wordL ws (k + 1)).toNat, by omega⟩
            rw [hm] at hwb ⊢
            have Hb5 := Lib.hid (Hbr.out.trans (hb5.mono Hbr.out.size))
            have Ho5 := Lib.hid (own_below Hor.out hb5)
            clear hb5 hm wk
            have er : Int.tmod (m : Int) 3 = ((m % 3 : Nat) : Int) := by rw [Int.tmod_eq_emod_of_nonneg (by omega)]; omega
            obtain ⟨j, hj0⟩ : ∃ j, m % 3 = j := ⟨_, rfl⟩
            have hj3 : j < 3 := by omega
            rw [hj0] at er
            have ew : IntKind.i64.wrap (j : Int) = (j : Int) := IntWalk.i64_in _ (by omega)
            clear hj0 hwb
            by_cases hjz : j = 0
            · have ej : ((j : Int) == 0) = true := by simp [hjz]
              obtain ⟨bb, oo, x, rfl, hx, q0, q1, q2, q3, q4, q5, q6, _⟩ := ((Hv.out.below HB5.out).below Hb5.out).at_ (n := N) (k := k) (by have := HN.out; omega)
              have hxm := List.mem_of_getElem? hx
              have HX2 := Lib.hid (show ∀ r, r ∈ X ++ [x] ↔ r ∈ l from fun r => by
                rw [List.mem_append, HX.out r]
                constructor
                · rintro (h | h)
                  · exact h
                  · rw [List.mem_singleton.1 h]; exact hxm
                · exact .inl)
              clear hx hxm hjz
              go_wp2_with (at_builtin; refine wpList_append_src _ rfl (.tmp 93) (.tmp 98) 46 rfl w2.heap.size 75 i0 _ 7 56 Try.underlying46 hi0 hz0 hz1 hz2 rfl (by omega) _ n _ rfl (Ho5.out.alloc _) (some ⟨w5.heap.size, 0, none⟩) 1 1 (tpC x) rfl (src_new w5 (tpC x) 75 1 7 rfl) (by simp [tpC, Value.oneCell']) (by unfold maxLen; omega) (by omega) (Nat.le_trans Hb5.out.size (by simp)) ?_; intro v6 w6 hown6 hg6 hat6)
              have hb6 : Below w2.heap.size w2 w6 := below_grown (Hb5.out.alloc Hb5.out.size _) hg6 (Nat.le_trans Hb5.out.size (by simp)) (Ho5.out.alloc _) (Nat.le_refl _)
              obtain ⟨A6, c6, rfl⟩ := own_form hown6
              have Hb6 := Lib.hid hb6
              have Ho6 := Lib.hid hown6
              clear hown6 hg6 hat6 hb6 q0 q1 q2 q3 q4 q5 q6
              go_roundw
              case rel =>
                refine ⟨k + 1, X ++ [x], A6, c6, n + 1, by omega, by rw [List.length_append, ← Hn.out]; rfl, by omega, HX2.out, rfl, by go_num, Hb6.out, ?_⟩
                rw [List.flatMap_append]
                simpa using Ho6.out
              case measure => simp [intOf]; omega
            · have ej : ((j : Int) == 0) = false := by simpa using hjz
              clear hjz
              go_wp2
              go_roundw
              case rel => exact ⟨k + 1, X, A2, c2, n, by omega, Hn.out, hnl, HX.out, rfl, by go_num, Hb5.out, Ho5.out⟩
              case measure => simp [intOf]; omega
          · have hrx := tps_own Hor.out
            have hokX := taps_same HX.out Hok.out (by have := Hn.out; omega)
            have HFX := Lib.hid (tapsF_ok.2 hokX)
            have Hdu := Lib.hid (dues_same (t := t) HX.out)
            have Hmi := Lib.hid (miss_same cs HX.out)
            have Hto := Lib.hid (totals_same (t := t) cs HX.out)
            obtain ⟨lo, hlo⟩ : ∃ lo, totalLo t l = lo := ⟨_, rfl⟩
            obtain ⟨hi', hhi⟩ : ∃ hi', totalHi t l cs = hi' := ⟨_, rfl⟩
            obtain ⟨D, hD⟩ : ∃ D, duesL t l = D := ⟨_, rfl⟩
            have hD10 : D.length = 10 := by rw [← hD]; exact duesL_len t l
            obtain ⟨R, hR⟩ : ∃ R, missLL l cs = R := ⟨_, rfl⟩
            have hR4 : R.length = 4 := by rw [← hR]; exact Hml.out
            have hRl : ∀ row ∈ R, row.length ≤ 1000000 := by
              intro row hr
              rw [← hR] at hr
              unfold missLL at hr
              obtain ⟨m, hm, rfl⟩ := List.mem_map.1 hr
              have h1 : ∀ y, cntAt cs y ≤ 50 := fun y => by
                unfold cntAt
                cases e : cs[y.toNat]? with
                | none => simp
                | some q => exact (Hok.out.cnt q (List.mem_of_getElem? e)).2
              rw [missL_eq]
              have := missK_len l m (cntAt cs m).toNat
              have := h1 m
              omega
            have Hlo := Lib.hid hlo
            have Hhi := Lib.hid hhi
            have HD := Lib.hid hD
            have HD10 := Lib.hid hD10
            have HR := Lib.hid hR
            have HR4 := Lib.hid hR4
            have HRl := Lib.hid hRl
            have Hox := Lib.hid hrx
            clear hrx hokX hlo hhi hD hD10 hR hR4 hRl
            have HB7 := Lib.hid (HB5.out.trans (Hbr.out.mono HB5.out.size))
            have HX7 := Lib.hid ((Hbr.out.block _ (Array.getElem?_eq_some_iff.1 HX5.out).1).trans HX5.out)
            by_cases hkN : k < N
            · have ik : (k : Int) < (N : Int) := by omega
              have in40 : ¬ (n : Int) < 40 := by omega
              clear hlt hkN
              have aq := box_cells HX7.out
              have a0 := aq 0
              have a1 := aq 1
              have a2 := aq 2
              have a3 := aq 3
              have a4 := aq 4
              simp only [List.getElem?_toArray, List.getElem?_cons_zero, List.getElem?_cons_succ] at a0 a1 a2 a3 a4
              clear aq
              go_wp2_with fail
              refine (Tariff_law t a b c0 _ (HT.out.below HB7.out) Hth.out).mono ?_
              rintro e xa8 ⟨pa8, pb8, pc8, rfl, hT8, hxa8⟩
              clear a0 a1 a2 a3 a4
              have HB9 := Lib.hid (HB7.out.trans (hxa8.mono HB7.out.size))
              have HX9 := Lib.hid ((hxa8.block _ (Array.getElem?_eq_some_iff.1 HX7.out).1).trans HX7.out)
              have Hox := Lib.hid (Hox.out.below hxa8)
              go_wp2_with fail
              refine (Taps_law _ l _ (Hv.out.below HB9.out) (by have := HN.out; omega)).mono ?_
              rintro e xb8 ⟨pA8, pk8, rfl, hr8, hxb8⟩
              have hT8 := hT8.below hxb8
              have HB10 := Lib.hid (HB9.out.trans (hxb8.mono HB9.out.size))
              have HX10 := Lib.hid ((hxb8.block _ (Array.getElem?_eq_some_iff.1 HX9.out).1).trans HX9.out)
              have Hox := Lib.hid (Hox.out.below hxb8)
              go_wp2_with fail
              refine (copy_any _ cs _ (Hc.out.below HB10.out) (by have := HM.out; omega)).mono ?_
              rintro e xd8 ⟨pB8, pq8, rfl, ho8, hxd8⟩
              have hT8 := hT8.below hxd8
              have hr8 := hr8.below hxd8
              have hz8 := nums_of_own ho8
              have HB11 := Lib.hid (HB10.out.trans (hxd8.mono HB10.out.size))
              have HX11 := Lib.hid ((hxd8.block _ (Array.getElem?_eq_some_iff.1 HX10.out).1).trans HX10.out)
              have Hox := Lib.hid (Hox.out.below hxd8)
              go_wp2_with fail
              refine (Charges_any t pa8 pb8 pc8 _ _ l cs _ hT8 hr8 hz8 (by have := HN.out; omega)).mono ?_
              rintro e xc8 ⟨hxc8, _, hg⟩
              obtain ⟨CA0, Ck0, rfl, hda⟩ := hg HF.out
              rw [HD.out, HD10.out] at hda
              rw [HD.out, HD10.out]
              have Hda0 := Lib.hid hda
              clear hg hda hT8 hr8 hz8 ho8
              have HB12 := Lib.hid (HB11.out.trans (hxc8.mono HB11.out.size))
              have HX12 := Lib.hid ((hxc8.block _ (Array.getElem?_eq_some_iff.1 HX11.out).1).trans HX11.out)
              have Hox := Lib.hid (Hox.out.below hxc8)
              clear hxc8
              have aq := box_cells HX12.out
              have a0 := aq 0
              have a1 := aq 1
              have a2 := aq 2
              have a3 := aq 3
              have a4 := aq 4
              simp only [List.getElem?_toArray, List.getElem?_cons_zero, List.getElem?_cons_succ] at a0 a1 a2 a3 a4
              clear aq
              go_wp2_with fail
              refine (Tariff_law t a b c0 _ (HT.out.below HB12.out) Hth.out).mono ?_
              rintro e xa13 ⟨pa13, pb13, pc13, rfl, hT13, hxa13⟩
              clear a0 a1 a2 a3 a4
              have HB14 := Lib.hid (HB12.out.trans (hxa13.mono HB12.out.size))
              have HX14 := Lib.hid ((hxa13.block _ (Array.getElem?_eq_some_iff.1 HX12.out).1).trans HX12.out)
              have Hox := Lib.hid (Hox.out.below hxa13)
              have Hda0 := Lib.hid (Hda0.out.below hxa13)
              go_wp2_with fail
              refine (Taps_law _ X _ Hox.out (by have := Hn.out; omega)).mono ?_
              rintro e xb13 ⟨pA13, pk13, rfl, hr13, hxb13⟩
              have hT13 := hT13.below hxb13
              have HB15 := Lib.hid (HB14.out.trans (hxb13.mono HB14.out.size))
              have HX15 := Lib.hid ((hxb13.block _ (Array.getElem?_eq_some_iff.1 HX14.out).1).trans HX14.out)
              have Hox := Lib.hid (Hox.out.below hxb13)
              have Hda0 := Lib.hid (Hda0.out.below hxb13)
              go_wp2_with fail
              refine (copy_any _ cs _ (Hc.out.below HB15.out) (by have := HM.out; omega)).mono ?_
              rintro e xd13 ⟨pB13, pq13, rfl, ho13, hxd13⟩
              have hT13 := hT13.below hxd13
              have hr13 := hr13.below hxd13
              have hz13 := nums_of_own ho13
              have HB16 := Lib.hid (HB15.out.trans (hxd13.mono HB15.out.size))
              have HX16 := Lib.hid ((hxd13.block _ (Array.getElem?_eq_some_iff.1 HX15.out).1).trans HX15.out)
              have Hox := Lib.hid (Hox.out.below hxd13)
              have Hda0 := Lib.hid (Hda0.out.below hxd13)
              go_wp2_with fail
              refine (Charges_any t pa13 pb13 pc13 _ _ X cs _ hT13 hr13 hz13 (by have := Hn.out; omega)).mono ?_
              rintro e xc13 ⟨hxc13, _, hg⟩
              obtain ⟨CA1, Ck1, rfl, hda⟩ := hg HFX.out
              rw [Hdu.out, HD.out, HD10.out] at hda
              rw [Hdu.out, HD.out, HD10.out]
              have Hda1 := Lib.hid hda
              clear hg hda hT13 hr13 hz13 ho13
              have HB17 := Lib.hid (HB16.out.trans (hxc13.mono HB16.out.size))
              have HX17 := Lib.hid ((hxc13.block _ (Array.getElem?_eq_some_iff.1 HX16.out).1).trans HX16.out)
              have Hox := Lib.hid (Hox.out.below hxc13)
              have Hda0 := Lib.hid (Hda0.out.below hxc13)
              clear hxc13
              have aq := box_cells HX17.out
              have a0 := aq 0
              have a1 := aq 1
              have a2 := aq 2
              have a3 := aq 3
              have a4 := aq 4
              simp only [List.getElem?_toArray, List.getElem?_cons_zero, List.getElem?_cons_succ] at a0 a1 a2 a3 a4
              clear aq
              go_wp2_with fail
              refine (Tariff_law t a b c0 _ (HT.out.below HB17.out) Hth.out).mono ?_
              rintro e xa18 ⟨pa18, pb18, pc18, rfl, hT18, hxa18⟩
              clear a0 a1 a2 a3 a4
              have HB19 := Lib.hid (HB17.out.trans (hxa18.mono HB17.out.size))
              have HX19 := Lib.hid ((hxa18.block _ (Array.getElem?_eq_some_iff.1 HX17.out).1).trans HX17.out)
              have Hox := Lib.hid (Hox.out.below hxa18)
              have Hda0 := Lib.hid (Hda0.out.below hxa18)
              have Hda1 := Lib.hid (Hda1.out.below hxa18)
              go_wp2_with fail
              refine (Taps_law _ l _ (Hv.out.below HB19.out) (by have := HN.out; omega)).mono ?_
              rintro e xb18 ⟨pA18, pk18, rfl, hr18, hxb18⟩
              have hT18 := hT18.below hxb18
              have HB20 := Lib.hid (HB19.out.trans (hxb18.mono HB19.out.size))
              have HX20 := Lib.hid ((hxb18.block _ (Array.getElem?_eq_some_iff.1 HX19.out).1).trans HX19.out)
              have Hox := Lib.hid (Hox.out.below hxb18)
              have Hda0 := Lib.hid (Hda0.out.below hxb18)
              have Hda1 := Lib.hid (Hda1.out.below hxb18)
              go_wp2_with fail
              refine (copy_any _ cs _ (Hc.out.below HB20.out) (by have := HM.out; omega)).mono ?_
              rintro e xd18 ⟨pB18, pq18, rfl, ho18, hxd18⟩
              have hT18 := hT18.below hxd18
              have hr18 := hr18.below hxd18
              have hz18 := nums_of_own ho18
              have HB21 := Lib.hid (HB20.out.trans (hxd18.mono HB20.out.size))
              have HX21 := Lib.hid ((hxd18.block _ (Array.getElem?_eq_some_iff.1 HX20.out).1).trans HX20.out)
              have Hox := Lib.hid (Hox.out.below hxd18)
              have Hda0 := Lib.hid (Hda0.out.below hxd18)
              have Hda1 := Lib.hid (Hda1.out.below hxd18)
              go_wp2_with fail
              refine (Total_any t pa18 pb18 pc18 _ _ l cs _ hT18 hr18 hz18 (by have := HN.out; omega)).mono ?_
              rintro e xc18 ⟨hxc18, _, hg⟩
              obtain rfl := hg HF.out
              rw [Hlo.out, Hhi.out]
              clear hg hT18 hr18 hz18 ho18
              have HB22 := Lib.hid (HB21.out.trans (hxc18.mono HB21.out.size))
              have HX22 := Lib.hid ((hxc18.block _ (Array.getElem?_eq_some_iff.1 HX21.out).1).trans HX21.out)
              have Hox := Lib.hid (Hox.out.below hxc18)
              have Hda0 := Lib.hid (Hda0.out.below hxc18)
              have Hda1 := Lib.hid (Hda1.out.below hxc18)
              clear hxc18
              go_upto_region 17 with (fail)
              refine wp_name (fun V => Below xc18.heap.size xc18 V ∧ V.heap[xc18.heap.size]? = some (.cells #[.int .i64 lo, .int .i64 hi'] 61 (0, 0))) ⟨(Below.refl _ _).alloc (Nat.le_refl _) _, heap_alloc_new xc18 _⟩ (fun V18 hV => ?_)
              obtain ⟨hbV18, hxV⟩ := hV
              obtain ⟨G0, hG⟩ : ∃ G, xc18.heap.size = G := ⟨_, rfl⟩
              rw [hG] at hxV ⊢
              have HG0 := Lib.hid hxV
              clear hG hxV
              have HB23 := Lib.hid (HB22.out.trans (hbV18.mono HB22.out.size))
              have HX23 := Lib.hid ((hbV18.block _ (Array.getElem?_eq_some_iff.1 HX22.out).1).trans HX22.out)
              have Hox := Lib.hid (Hox.out.below hbV18)
              have Hda0 := Lib.hid (Hda0.out.below hbV18)
              have Hda1 := Lib.hid (Hda1.out.below hbV18)
              clear hbV18
              have aq := box_cells HX23.out
              have a0 := aq 0
              have a1 := aq 1
              have a2 := aq 2
              have a3 := aq 3
              have a4 := aq 4
              simp only [List.getElem?_toArray, List.getElem?_cons_zero, List.getElem?_cons_succ] at a0 a1 a2 a3 a4
              clear aq
              go_wp2_with fail
              refine (Tariff_law t a b c0 _ (HT.out.below HB23.out) Hth.out).mono ?_
              rintro e xa24 ⟨pa24, pb24, pc24, rfl, hT24, hxa24⟩
              clear a0 a1 a2 a3 a4
              have HB25 := Lib.hid (HB23.out.trans (hxa24.mono HB23.out.size))
              have HX25 := Lib.hid ((hxa24.block _ (Array.getElem?_eq_some_iff.1 HX23.out).1).trans HX23.out)
              have Hox := Lib.hid (Hox.out.below hxa24)
              have Hda0 := Lib.hid (Hda0.out.below hxa24)
              have Hda1 := Lib.hid (Hda1.out.below hxa24)
              have HG0 := Lib.hid ((hxa24.block _ (Array.getElem?_eq_some_iff.1 HG0.out).1).trans HG0.out)
              go_wp2_with fail
              refine (Taps_law _ X _ Hox.out (by have := Hn.out; omega)).mono ?_
              rintro e xb24 ⟨pA24, pk24, rfl, hr24, hxb24⟩
              have hT24 := hT24.below hxb24
              have HB26 := Lib.hid (HB25.out.trans (hxb24.mono HB25.out.size))
              have HX26 := Lib.hid ((hxb24.block _ (Array.getElem?_eq_some_iff.1 HX25.out).1).trans HX25.out)
              have Hox := Lib.hid (Hox.out.below hxb24)
              have Hda0 := Lib.hid (Hda0.out.below hxb24)
              have Hda1 := Lib.hid (Hda1.out.below hxb24)
              have HG0 := Lib.hid ((hxb24.block _ (Array.getElem?_eq_some_iff.1 HG0.out).1).trans HG0.out)
              go_wp2_with fail
              refine (copy_any _ cs _ (Hc.out.below HB26.out) (by have := HM.out; omega)).mono ?_
              rintro e xd24 ⟨pB24, pq24, rfl, ho24, hxd24⟩
              have hT24 := hT24.below hxd24
              have hr24 := hr24.below hxd24
              have hz24 := nums_of_own ho24
              have HB27 := Lib.hid (HB26.out.trans (hxd24.mono HB26.out.size))
              have HX27 := Lib.hid ((hxd24.block _ (Array.getElem?_eq_some_iff.1 HX26.out).1).trans HX26.out)
              have Hox := Lib.hid (Hox.out.below hxd24)
              have Hda0 := Lib.hid (Hda0.out.below hxd24)
              have Hda1 := Lib.hid (Hda1.out.below hxd24)
              have HG0 := Lib.hid ((hxd24.block _ (Array.getElem?_eq_some_iff.1 HG0.out).1).trans HG0.out)
              go_wp2_with fail
              refine (Total_any t pa24 pb24 pc24 _ _ X cs _ hT24 hr24 hz24 (by have := Hn.out; omega)).mono ?_
              rintro e xc24 ⟨hxc24, _, hg⟩
              obtain rfl := hg HFX.out
              rw [Hto.out.1, Hto.out.2, Hlo.out, Hhi.out]
              clear hg hT24 hr24 hz24 ho24
              have HB28 := Lib.hid (HB27.out.trans (hxc24.mono HB27.out.size))
              have HX28 := Lib.hid ((hxc24.block _ (Array.getElem?_eq_some_iff.1 HX27.out).1).trans HX27.out)
              have Hox := Lib.hid (Hox.out.below hxc24)
              have Hda0 := Lib.hid (Hda0.out.below hxc24)
              have Hda1 := Lib.hid (Hda1.out.below hxc24)
              have HG0 := Lib.hid ((hxc24.block _ (Array.getElem?_eq_some_iff.1 HG0.out).1).trans HG0.out)
              clear hxc24
              go_upto_region 18 with (fail)
              refine wp_name (fun V => Below xc24.heap.size xc24 V ∧ V.heap[xc24.heap.size]? = some (.cells #[.int .i64 lo, .int .i64 hi'] 61 (0, 0))) ⟨(Below.refl _ _).alloc (Nat.le_refl _) _, heap_alloc_new xc24 _⟩ (fun V24 hV => ?_)
              obtain ⟨hbV24, hxV⟩ := hV
              obtain ⟨G1, hG⟩ : ∃ G, xc24.heap.size = G := ⟨_, rfl⟩
              rw [hG] at hxV ⊢
              have HG1 := Lib.hid hxV
              clear hG hxV
              have HB29 := Lib.hid (HB28.out.trans (hbV24.mono HB28.out.size))
              have HX29 := Lib.hid ((hbV24.block _ (Array.getElem?_eq_some_iff.1 HX28.out).1).trans HX28.out)
              have Hox := Lib.hid (Hox.out.below hbV24)
              have Hda0 := Lib.hid (Hda0.out.below hbV24)
              have Hda1 := Lib.hid (Hda1.out.below hbV24)
              have HG0 := Lib.hid ((hbV24.block _ (Array.getElem?_eq_some_iff.1 HG0.out).1).trans HG0.out)
              clear hbV24
              have aq := box_cells HX29.out
              have a0 := aq 0
              have a1 := aq 1
              have a2 := aq 2
              have a3 := aq 3
              have a4 := aq 4
              simp only [List.getElem?_toArray, List.getElem?_cons_zero, List.getElem?_cons_succ] at a0 a1 a2 a3 a4
              clear aq
              go_wp2_with fail
              refine (Tariff_law t a b c0 _ (HT.out.below HB29.out) Hth.out).mono ?_
              rintro e xa30 ⟨pa30, pb30, pc30, rfl, hT30, hxa30⟩
              clear a0 a1 a2 a3 a4
              have HB31 := Lib.hid (HB29.out.trans (hxa30.mono HB29.out.size))
              have HX31 := Lib.hid ((hxa30.block _ (Array.getElem?_eq_some_iff.1 HX29.out).1).trans HX29.out)
              have Hox := Lib.hid (Hox.out.below hxa30)
              have Hda0 := Lib.hid (Hda0.out.below hxa30)
              have Hda1 := Lib.hid (Hda1.out.below hxa30)
              have HG0 := Lib.hid ((hxa30.block _ (Array.getElem?_eq_some_iff.1 HG0.out).1).trans HG0.out)
              have HG1 := Lib.hid ((hxa30.block _ (Array.getElem?_eq_some_iff.1 HG1.out).1).trans HG1.out)
              go_wp2_with fail
              refine (Taps_law _ l _ (Hv.out.below HB31.out) (by have := HN.out; omega)).mono ?_
              rintro e xb30 ⟨pA30, pk30, rfl, hr30, hxb30⟩
              have hT30 := hT30.below hxb30
              have HB32 := Lib.hid (HB31.out.trans (hxb30.mono HB31.out.size))
              have HX32 := Lib.hid ((hxb30.block _ (Array.getElem?_eq_some_iff.1 HX31.out).1).trans HX31.out)
              have Hox := Lib.hid (Hox.out.below hxb30)
              have Hda0 := Lib.hid (Hda0.out.below hxb30)
              have Hda1 := Lib.hid (Hda1.out.below hxb30)
              have HG0 := Lib.hid ((hxb30.block _ (Array.getElem?_eq_some_iff.1 HG0.out).1).trans HG0.out)
              have HG1 := Lib.hid ((hxb30.block _ (Array.getElem?_eq_some_iff.1 HG1.out).1).trans HG1.out)
              go_wp2_with fail
              refine (copy_any _ cs _ (Hc.out.below HB32.out) (by have := HM.out; omega)).mono ?_
              rintro e xd30 ⟨pB30, pq30, rfl, ho30, hxd30⟩
              have hT30 := hT30.below hxd30
              have hr30 := hr30.below hxd30
              have hz30 := nums_of_own ho30
              have HB33 := Lib.hid (HB32.out.trans (hxd30.mono HB32.out.size))
              have HX33 := Lib.hid ((hxd30.block _ (Array.getElem?_eq_some_iff.1 HX32.out).1).trans HX32.out)
              have Hox := Lib.hid (Hox.out.below hxd30)
              have Hda0 := Lib.hid (Hda0.out.below hxd30)
              have Hda1 := Lib.hid (Hda1.out.below hxd30)
              have HG0 := Lib.hid ((hxd30.block _ (Array.getElem?_eq_some_iff.1 HG0.out).1).trans HG0.out)
              have HG1 := Lib.hid ((hxd30.block _ (Array.getElem?_eq_some_iff.1 HG1.out).1).trans HG1.out)
              go_wp2_with fail
              refine (Missing_any t pa30 pb30 pc30 _ _ l cs _ hT30 hr30 hz30 (by have := HN.out; omega)).mono ?_
              rintro e xc30 ⟨hxc30, _, hg⟩
              obtain ⟨MA0, Mk0, rfl, hrm⟩ := hg HF.out
              rw [HR.out, HR4.out] at hrm
              rw [HR.out, HR4.out]
              have Hrm0 := Lib.hid hrm
              clear hg hrm hT30 hr30 hz30 ho30
              have HB34 := Lib.hid (HB33.out.trans (hxc30.mono HB33.out.size))
              have HX34 := Lib.hid ((hxc30.block _ (Array.getElem?_eq_some_iff.1 HX33.out).1).trans HX33.out)
              have Hox := Lib.hid (Hox.out.below hxc30)
              have Hda0 := Lib.hid (Hda0.out.below hxc30)
              have Hda1 := Lib.hid (Hda1.out.below hxc30)
              have HG0 := Lib.hid ((hxc30.block _ (Array.getElem?_eq_some_iff.1 HG0.out).1).trans HG0.out)
              have HG1 := Lib.hid ((hxc30.block _ (Array.getElem?_eq_some_iff.1 HG1.out).1).trans HG1.out)
              clear hxc30
              have aq := box_cells HX34.out
              have a0 := aq 0
              have a1 := aq 1
              have a2 := aq 2
              have a3 := aq 3
              have a4 := aq 4
              simp only [List.getElem?_toArray, List.getElem?_cons_zero, List.getElem?_cons_succ] at a0 a1 a2 a3 a4
              clear aq
              go_wp2_with fail
              refine (Tariff_law t a b c0 _ (HT.out.below HB34.out) Hth.out).mono ?_
              rintro e xa35 ⟨pa35, pb35, pc35, rfl, hT35, hxa35⟩
              clear a0 a1 a2 a3 a4
              have HB36 := Lib.hid (HB34.out.trans (hxa35.mono HB34.out.size))
              have HX36 := Lib.hid ((hxa35.block _ (Array.getElem?_eq_some_iff.1 HX34.out).1).trans HX34.out)
              have Hox := Lib.hid (Hox.out.below hxa35)
              have Hda0 := Lib.hid (Hda0.out.below hxa35)
              have Hda1 := Lib.hid (Hda1.out.below hxa35)
              have Hrm0 := Lib.hid (Hrm0.out.below hxa35)
              have HG0 := Lib.hid ((hxa35.block _ (Array.getElem?_eq_some_iff.1 HG0.out).1).trans HG0.out)
              have HG1 := Lib.hid ((hxa35.block _ (Array.getElem?_eq_some_iff.1 HG1.out).1).trans HG1.out)
              go_wp2_with fail
              refine (Taps_law _ X _ Hox.out (by have := Hn.out; omega)).mono ?_
              rintro e xb35 ⟨pA35, pk35, rfl, hr35, hxb35⟩
              have hT35 := hT35.below hxb35
              have HB37 := Lib.hid (HB36.out.trans (hxb35.mono HB36.out.size))
              have HX37 := Lib.hid ((hxb35.block _ (Array.getElem?_eq_some_iff.1 HX36.out).1).trans HX36.out)
              have Hox := Lib.hid (Hox.out.below hxb35)
              have Hda0 := Lib.hid (Hda0.out.below hxb35)
              have Hda1 := Lib.hid (Hda1.out.below hxb35)
              have Hrm0 := Lib.hid (Hrm0.out.below hxb35)
              have HG0 := Lib.hid ((hxb35.block _ (Array.getElem?_eq_some_iff.1 HG0.out).1).trans HG0.out)
              have HG1 := Lib.hid ((hxb35.block _ (Array.getElem?_eq_some_iff.1 HG1.out).1).trans HG1.out)
              go_wp2_with fail
              refine (copy_any _ cs _ (Hc.out.below HB37.out) (by have := HM.out; omega)).mono ?_
              rintro e xd35 ⟨pB35, pq35, rfl, ho35, hxd35⟩
              have hT35 := hT35.below hxd35
              have hr35 := hr35.below hxd35
              have hz35 := nums_of_own ho35
              have HB38 := Lib.hid (HB37.out.trans (hxd35.mono HB37.out.size))
              have HX38 := Lib.hid ((hxd35.block _ (Array.getElem?_eq_some_iff.1 HX37.out).1).trans HX37.out)
              have Hox := Lib.hid (Hox.out.below hxd35)
              have Hda0 := Lib.hid (Hda0.out.below hxd35)
              have Hda1 := Lib.hid (Hda1.out.below hxd35)
              have Hrm0 := Lib.hid (Hrm0.out.below hxd35)
              have HG0 := Lib.hid ((hxd35.block _ (Array.getElem?_eq_some_iff.1 HG0.out).1).trans HG0.out)
              have HG1 := Lib.hid ((hxd35.block _ (Array.getElem?_eq_some_iff.1 HG1.out).1).trans HG1.out)
              go_wp2_with fail
              refine (Missing_any t pa35 pb35 pc35 _ _ X cs _ hT35 hr35 hz35 (by have := Hn.out; omega)).mono ?_
              rintro e xc35 ⟨hxc35, _, hg⟩
              obtain ⟨MA1, Mk1, rfl, hrm⟩ := hg HFX.out
              rw [Hmi.out, HR.out, HR4.out] at hrm
              rw [Hmi.out, HR.out, HR4.out]
              have Hrm1 := Lib.hid hrm
              clear hg hrm hT35 hr35 hz35 ho35
              have HB39 := Lib.hid (HB38.out.trans (hxc35.mono HB38.out.size))
              have HX39 := Lib.hid ((hxc35.block _ (Array.getElem?_eq_some_iff.1 HX38.out).1).trans HX38.out)
              have Hox := Lib.hid (Hox.out.below hxc35)
              have Hda0 := Lib.hid (Hda0.out.below hxc35)
              have Hda1 := Lib.hid (Hda1.out.below hxc35)
              have Hrm0 := Lib.hid (Hrm0.out.below hxc35)
              have HG0 := Lib.hid ((hxc35.block _ (Array.getElem?_eq_some_iff.1 HG0.out).1).trans HG0.out)
              have HG1 := Lib.hid ((hxc35.block _ (Array.getElem?_eq_some_iff.1 HG1.out).1).trans HG1.out)
              clear hxc35
              go_wp2_with fail
              refine (ints_any _ _ D D _ Hda0.out Hda1.out ⟨by have := HD10.out; omega, by have := HD10.out; omega⟩).mono ?_
              rintro e xi ⟨rfl, hxi⟩
              rw [decide_eq_true (rfl : D = D)]
              have HB40 := Lib.hid (HB39.out.trans (hxi.mono HB39.out.size))
              have HX40 := Lib.hid ((hxi.block _ (Array.getElem?_eq_some_iff.1 HX39.out).1).trans HX39.out)
              have Hox := Lib.hid (Hox.out.below hxi)
              have Hda0 := Lib.hid (Hda0.out.below hxi)
              have Hda1 := Lib.hid (Hda1.out.below hxi)
              have Hrm0 := Lib.hid (Hrm0.out.below hxi)
              have Hrm1 := Lib.hid (Hrm1.out.below hxi)
              have HG0 := Lib.hid ((hxi.block _ (Array.getElem?_eq_some_iff.1 HG0.out).1).trans HG0.out)
              have HG1 := Lib.hid ((hxi.block _ (Array.getElem?_eq_some_iff.1 HG1.out).1).trans HG1.out)
              clear hxi
              have rq : ∀ W : World, (binOp .neq 61 (.agg #[.int .i64 lo, .int .i64 hi']) (.agg #[.int .i64 lo, .int .i64 hi'])).run Try.prog W = .ok (.bool false) W := fun W => rng_neq W lo hi'
              have rg : ∀ (W : World) (x y : Operand), (eqGuard .neq 61 x y (.agg #[.int .i64 lo, .int .i64 hi']) (.agg #[.int .i64 lo, .int .i64 hi'])).run Try.prog W = .ok () W := fun W x y => rng_guardN W x y _ _
              have uq := box_cells HG0.out
              have u0 := uq 0
              have u1 := uq 1
              simp only [List.getElem?_toArray, List.getElem?_cons_zero, List.getElem?_cons_succ] at u0 u1
              clear uq
              have yq := box_cells HG1.out
              have y0 := yq 0
              have y1 := yq 1
              simp only [List.getElem?_toArray, List.getElem?_cons_zero, List.getElem?_cons_succ] at y0 y1
              clear yq
              obtain ⟨W2, hW2⟩ : ∃ W2, xi = W2 := ⟨_, rfl⟩
              rw [hW2] at HB40 HX40 Hrm0 Hrm1 u0 u1 y0 y1 ⊢
              clear hW2
              go_wp2
              clear u0 u1 y0 y1 rq rg
              go_loopw [25] (fun s wr => ∃ k : Nat, k ≤ 4 ∧ s = .int .i64 k ∧ Below W2.heap.size W2 wr) (fun s wr => 4 - (intOf s).toNat)
              case atStart => exact ⟨0, by omega, rfl, Below.refl _ _⟩
              case round =>
                obtain ⟨k, hk, rfl, hbr⟩ := hrel
                have Hbr := Lib.hid hbr
                by_cases hlt : k < 4
                · obtain ⟨bm, om, row, u, rfl, hrow, du, hnu, _⟩ := (Hrm0.out.below hbr).at_ (n := 4) (k := k) (by have := HR4.out; omega)
                  obtain ⟨bn, on, row2, u2, rfl, hrow2, dx, hnu2, _⟩ := (Hrm1.out.below hbr).at_ (n := 4) (k := k) (by have := HR4.out; omega)
                  obtain rfl : row = row2 := Option.some.inj (hrow.symm.trans hrow2)
                  have ik : (k : Int) < 4 := by omega
                  have hnl := HRl.out row (List.mem_of_getElem? hrow)
                  obtain ⟨Au1, cu1, rfl, _, _⟩ := hnu.form
                  obtain ⟨Au2, cu2, rfl, _, _⟩ := hnu2.form
                  obtain ⟨rn, hrn⟩ : ∃ rn, row.length = rn := ⟨_, rfl⟩
                  have hd : Below wr.heap.size wr wr.drew := (Below.refl _ _).drew
                  have Hnu := Lib.hid hnu
                  have Hnu2 := Lib.hid hnu2
                  have Hnl := Lib.hid hnl
                  rw [hrn] at du dx Hnu Hnu2
                  clear hrow hrow2 hnu hnu2 hnl hrn
                  go_upto_region 25 with (fail)
                  refine wp_region_noPanic ?_
                  refine wp_region_pick [0, 1, 2, 3, 4, 5, 6, 7] [8, 9] (fun _ => true) (fun w' => Below wr.heap.size wr w') (by kernel_rfl) (by kernel_rfl) (fun _ _ _ _ _ h => h) hd (fun hne => ?_)
                  have n0 := fun y : Meets (fun w' => Below wr.heap.size wr w') => cell_below y.property du
                  have n1 := fun y : Meets (fun w' => Below wr.heap.size wr w') => cell_below y.property dx
                  simp only [pick, pickN, List.filterMap_cons, List.filterMap_nil, List.getElem?_cons_zero, List.getElem?_cons_succ, Option.map_some]
                  repeat (change wpQuiet _ _ _ _ (_ :: _) _; go_big_quiet_step (fail))
                  refine wpQuiet_nil ?_
                  clear n0 n1 hne du dx
                  refine wpSeqP_step (fun K hK => ?_)
                  go_simp
                  refine (ints_any _ _ row row _ (Hnu.out.below hd) (Hnu2.out.below hd) ⟨Hnl.out, Hnl.out⟩).mono ?_
                  rintro e w6 ⟨rfl, hb6⟩
                  have hb36 := hd.trans (hb6.mono hd.size)
                  rw [decide_eq_true (rfl : row = row)]
                  refine hK.out _ _ (fun _ => hb36) ?_
                  clear hK K
                  refine wpSeqP_step (fun K hK => ?_)
                  go_simp
                  refine hK.out _ _ (fun _ => hb36) ?_
                  clear hK K
                  refine wpSeqP_nil ?_
                  refine NoPanic.normal ?_
                  have Hb36 := Lib.hid hb36
                  clear hb36 hb6 hd hbr
                  go_wp2
                  go_roundw
                  case rel => exact ⟨k + 1, by omega, by go_num, Hbr.out.trans (Hb36.out.mono Hbr.out.size)⟩
                  case measure => simp [intOf]; omega
                · have ik : ¬ (k : Int) < 4 := by omega
                  clear hbr
                  have HB41 := Lib.hid (HB40.out.trans (Hbr.out.mono HB40.out.size))
                  have HX41 := Lib.hid ((Hbr.out.block _ (Array.getElem?_eq_some_iff.1 HX40.out).1).trans HX40.out)
                  go_wp2_with fail
                  refine (awake_any _).mono ?_
                  rintro e wz42 ⟨rfl, hbz42⟩
                  go_wp2
                  go_ret
                  exact ⟨rfl, HB41.out.trans (hbz42.mono HB41.out.size)⟩
            · have ik : ¬ (k : Int) < (N : Int) := by omega
              clear hlt hkN
              have aq := box_cells HX7.out
              have a0 := aq 0
              have a1 := aq 1
              have a2 := aq 2
              have a3 := aq 3
              have a4 := aq 4
              simp only [List.getElem?_toArray, List.getElem?_cons_zero, List.getElem?_cons_succ] at a0 a1 a2 a3 a4
              clear aq
              go_wp2_with fail
              refine (Tariff_law t a b c0 _ (HT.out.below HB7.out) Hth.out).mono ?_
              rintro e xa43 ⟨pa43, pb43, pc43, rfl, hT43, hxa43⟩
              clear a0 a1 a2 a3 a4
              have HB44 := Lib.hid (HB7.out.trans (hxa43.mono HB7.out.size))
              have HX44 := Lib.hid ((hxa43.block _ (Array.getElem?_eq_some_iff.1 HX7.out).1).trans HX7.out)
              have Hox := Lib.hid (Hox.out.below hxa43)
              go_wp2_with fail
              refine (Taps_law _ l _ (Hv.out.below HB44.out) (by have := HN.out; omega)).mono ?_
              rintro e xb43 ⟨pA43, pk43, rfl, hr43, hxb43⟩
              have hT43 := hT43.below hxb43
              have HB45 := Lib.hid (HB44.out.trans (hxb43.mono HB44.out.size))
              have HX45 := Lib.hid ((hxb43.block _ (Array.getElem?_eq_some_iff.1 HX44.out).1).trans HX44.out)
              have Hox := Lib.hid (Hox.out.below hxb43)
              go_wp2_with fail
              refine (copy_any _ cs _ (Hc.out.below HB45.out) (by have := HM.out; omega)).mono ?_
              rintro e xd43 ⟨pB43, pq43, rfl, ho43, hxd43⟩
              have hT43 := hT43.below hxd43
              have hr43 := hr43.below hxd43
              have hz43 := nums_of_own ho43
              have HB46 := Lib.hid (HB45.out.trans (hxd43.mono HB45.out.size))
              have HX46 := Lib.hid ((hxd43.block _ (Array.getElem?_eq_some_iff.1 HX45.out).1).trans HX45.out)
              have Hox := Lib.hid (Hox.out.below hxd43)
              go_wp2_with fail
              refine (Charges_any t pa43 pb43 pc43 _ _ l cs _ hT43 hr43 hz43 (by have := HN.out; omega)).mono ?_
              rintro e xc43 ⟨hxc43, _, hg⟩
              obtain ⟨CA0, Ck0, rfl, hda⟩ := hg HF.out
              rw [HD.out, HD10.out] at hda
              rw [HD.out, HD10.out]
              have Hda0 := Lib.hid hda
              clear hg hda hT43 hr43 hz43 ho43
              have HB47 := Lib.hid (HB46.out.trans (hxc43.mono HB46.out.size))
              have HX47 := Lib.hid ((hxc43.block _ (Array.getElem?_eq_some_iff.1 HX46.out).1).trans HX46.out)
              have Hox := Lib.hid (Hox.out.below hxc43)
              clear hxc43
              have aq := box_cells HX47.out
              have a0 := aq 0
              have a1 := aq 1
              have a2 := aq 2
              have a3 := aq 3
              have a4 := aq 4
              simp only [List.getElem?_toArray, List.getElem?_cons_zero, List.getElem?_cons_succ] at a0 a1 a2 a3 a4
              clear aq
              go_wp2_with fail
              refine (Tariff_law t a b c0 _ (HT.out.below HB47.out) Hth.out).mono ?_
              rintro e xa48 ⟨pa48, pb48, pc48, rfl, hT48, hxa48⟩
              clear a0 a1 a2 a3 a4
              have HB49 := Lib.hid (HB47.out.trans (hxa48.mono HB47.out.size))
              have HX49 := Lib.hid ((hxa48.block _ (Array.getElem?_eq_some_iff.1 HX47.out).1).trans HX47.out)
              have Hox := Lib.hid (Hox.out.below hxa48)
              have Hda0 := Lib.hid (Hda0.out.below hxa48)
              go_wp2_with fail
              refine (Taps_law _ X _ Hox.out (by have := Hn.out; omega)).mono ?_
              rintro e xb48 ⟨pA48, pk48, rfl, hr48, hxb48⟩
              have hT48 := hT48.below hxb48
              have HB50 := Lib.hid (HB49.out.trans (hxb48.mono HB49.out.size))
              have HX50 := Lib.hid ((hxb48.block _ (Array.getElem?_eq_some_iff.1 HX49.out).1).trans HX49.out)
              have Hox := Lib.hid (Hox.out.below hxb48)
              have Hda0 := Lib.hid (Hda0.out.below hxb48)
              go_wp2_with fail
              refine (copy_any _ cs _ (Hc.out.below HB50.out) (by have := HM.out; omega)).mono ?_
              rintro e xd48 ⟨pB48, pq48, rfl, ho48, hxd48⟩
              have hT48 := hT48.below hxd48
              have hr48 := hr48.below hxd48
              have hz48 := nums_of_own ho48
              have HB51 := Lib.hid (HB50.out.trans (hxd48.mono HB50.out.size))
              have HX51 := Lib.hid ((hxd48.block _ (Array.getElem?_eq_some_iff.1 HX50.out).1).trans HX50.out)
              have Hox := Lib.hid (Hox.out.below hxd48)
              have Hda0 := Lib.hid (Hda0.out.below hxd48)
              go_wp2_with fail
              refine (Charges_any t pa48 pb48 pc48 _ _ X cs _ hT48 hr48 hz48 (by have := Hn.out; omega)).mono ?_
              rintro e xc48 ⟨hxc48, _, hg⟩
              obtain ⟨CA1, Ck1, rfl, hda⟩ := hg HFX.out
              rw [Hdu.out, HD.out, HD10.out] at hda
              rw [Hdu.out, HD.out, HD10.out]
              have Hda1 := Lib.hid hda
              clear hg hda hT48 hr48 hz48 ho48
              have HB52 := Lib.hid (HB51.out.trans (hxc48.mono HB51.out.size))
              have HX52 := Lib.hid ((hxc48.block _ (Array.getElem?_eq_some_iff.1 HX51.out).1).trans HX51.out)
              have Hox := Lib.hid (Hox.out.below hxc48)
              have Hda0 := Lib.hid (Hda0.out.below hxc48)
              clear hxc48
              have aq := box_cells HX52.out
              have a0 := aq 0
              have a1 := aq 1
              have a2 := aq 2
              have a3 := aq 3
              have a4 := aq 4
              simp only [List.getElem?_toArray, List.getElem?_cons_zero, List.getElem?_cons_succ] at a0 a1 a2 a3 a4
              clear aq
              go_wp2_with fail
              refine (Tariff_law t a b c0 _ (HT.out.below HB52.out) Hth.out).mono ?_
              rintro e xa53 ⟨pa53, pb53, pc53, rfl, hT53, hxa53⟩
              clear a0 a1 a2 a3 a4
              have HB54 := Lib.hid (HB52.out.trans (hxa53.mono HB52.out.size))
              have HX54 := Lib.hid ((hxa53.block _ (Array.getElem?_eq_some_iff.1 HX52.out).1).trans HX52.out)
              have Hox := Lib.hid (Hox.out.below hxa53)
              have Hda0 := Lib.hid (Hda0.out.below hxa53)
              have Hda1 := Lib.hid (Hda1.out.below hxa53)
              go_wp2_with fail
              refine (Taps_law _ l _ (Hv.out.below HB54.out) (by have := HN.out; omega)).mono ?_
              rintro e xb53 ⟨pA53, pk53, rfl, hr53, hxb53⟩
              have hT53 := hT53.below hxb53
              have HB55 := Lib.hid (HB54.out.trans (hxb53.mono HB54.out.size))
              have HX55 := Lib.hid ((hxb53.block _ (Array.getElem?_eq_some_iff.1 HX54.out).1).trans HX54.out)
              have Hox := Lib.hid (Hox.out.below hxb53)
              have Hda0 := Lib.hid (Hda0.out.below hxb53)
              have Hda1 := Lib.hid (Hda1.out.below hxb53)
              go_wp2_with fail
              refine (copy_any _ cs _ (Hc.out.below HB55.out) (by have := HM.out; omega)).mono ?_
              rintro e xd53 ⟨pB53, pq53, rfl, ho53, hxd53⟩
              have hT53 := hT53.below hxd53
              have hr53 := hr53.below hxd53
              have hz53 := nums_of_own ho53
              have HB56 := Lib.hid (HB55.out.trans (hxd53.mono HB55.out.size))
              have HX56 := Lib.hid ((hxd53.block _ (Array.getElem?_eq_some_iff.1 HX55.out).1).trans HX55.out)
              have Hox := Lib.hid (Hox.out.below hxd53)
              have Hda0 := Lib.hid (Hda0.out.below hxd53)
              have Hda1 := Lib.hid (Hda1.out.below hxd53)
              go_wp2_with fail
              refine (Total_any t pa53 pb53 pc53 _ _ l cs _ hT53 hr53 hz53 (by have := HN.out; omega)).mono ?_
              rintro e xc53 ⟨hxc53, _, hg⟩
              obtain rfl := hg HF.out
              rw [Hlo.out, Hhi.out]
              clear hg hT53 hr53 hz53 ho53
              have HB57 := Lib.hid (HB56.out.trans (hxc53.mono HB56.out.size))
              have HX57 := Lib.hid ((hxc53.block _ (Array.getElem?_eq_some_iff.1 HX56.out).1).trans HX56.out)
              have Hox := Lib.hid (Hox.out.below hxc53)
              have Hda0 := Lib.hid (Hda0.out.below hxc53)
              have Hda1 := Lib.hid (Hda1.out.below hxc53)
              clear hxc53
              go_upto_region 17 with (fail)
              refine wp_name (fun V => Below xc53.heap.size xc53 V ∧ V.heap[xc53.heap.size]? = some (.cells #[.int .i64 lo, .int .i64 hi'] 61 (0, 0))) ⟨(Below.refl _ _).alloc (Nat.le_refl _) _, heap_alloc_new xc53 _⟩ (fun V53 hV => ?_)
              obtain ⟨hbV53, hxV⟩ := hV
              obtain ⟨G0, hG⟩ : ∃ G, xc53.heap.size = G := ⟨_, rfl⟩
              rw [hG] at hxV ⊢
              have HG0 := Lib.hid hxV
              clear hG hxV
              have HB58 := Lib.hid (HB57.out.trans (hbV53.mono HB57.out.size))
              have HX58 := Lib.hid ((hbV53.block _ (Array.getElem?_eq_some_iff.1 HX57.out).1).trans HX57.out)
              have Hox := Lib.hid (Hox.out.below hbV53)
              have Hda0 := Lib.hid (Hda0.out.below hbV53)
              have Hda1 := Lib.hid (Hda1.out.below hbV53)
              clear hbV53
              have aq := box_cells HX58.out
              have a0 := aq 0
              have a1 := aq 1
              have a2 := aq 2
              have a3 := aq 3
              have a4 := aq 4
              simp only [List.getElem?_toArray, List.getElem?_cons_zero, List.getElem?_cons_succ] at a0 a1 a2 a3 a4
              clear aq
              go_wp2_with fail
              refine (Tariff_law t a b c0 _ (HT.out.below HB58.out) Hth.out).mono ?_
              rintro e xa59 ⟨pa59, pb59, pc59, rfl, hT59, hxa59⟩
              clear a0 a1 a2 a3 a4
              have HB60 := Lib.hid (HB58.out.trans (hxa59.mono HB58.out.size))
              have HX60 := Lib.hid ((hxa59.block _ (Array.getElem?_eq_some_iff.1 HX58.out).1).trans HX58.out)
              have Hox := Lib.hid (Hox.out.below hxa59)
              have Hda0 := Lib.hid (Hda0.out.below hxa59)
              have Hda1 := Lib.hid (Hda1.out.below hxa59)
              have HG0 := Lib.hid ((hxa59.block _ (Array.getElem?_eq_some_iff.1 HG0.out).1).trans HG0.out)
              go_wp2_with fail
              refine (Taps_law _ X _ Hox.out (by have := Hn.out; omega)).mono ?_
              rintro e xb59 ⟨pA59, pk59, rfl, hr59, hxb59⟩
              have hT59 := hT59.below hxb59
              have HB61 := Lib.hid (HB60.out.trans (hxb59.mono HB60.out.size))
              have HX61 := Lib.hid ((hxb59.block _ (Array.getElem?_eq_some_iff.1 HX60.out).1).trans HX60.out)
              have Hox := Lib.hid (Hox.out.below hxb59)
              have Hda0 := Lib.hid (Hda0.out.below hxb59)
              have Hda1 := Lib.hid (Hda1.out.below hxb59)
              have HG0 := Lib.hid ((hxb59.block _ (Array.getElem?_eq_some_iff.1 HG0.out).1).trans HG0.out)
              go_wp2_with fail
              refine (copy_any _ cs _ (Hc.out.below HB61.out) (by have := HM.out; omega)).mono ?_
              rintro e xd59 ⟨pB59, pq59, rfl, ho59, hxd59⟩
              have hT59 := hT59.below hxd59
              have hr59 := hr59.below hxd59
              have hz59 := nums_of_own ho59
              have HB62 := Lib.hid (HB61.out.trans (hxd59.mono HB61.out.size))
              have HX62 := Lib.hid ((hxd59.block _ (Array.getElem?_eq_some_iff.1 HX61.out).1).trans HX61.out)
              have Hox := Lib.hid (Hox.out.below hxd59)
              have Hda0 := Lib.hid (Hda0.out.below hxd59)
              have Hda1 := Lib.hid (Hda1.out.below hxd59)
              have HG0 := Lib.hid ((hxd59.block _ (Array.getElem?_eq_some_iff.1 HG0.out).1).trans HG0.out)
              go_wp2_with fail
              refine (Total_any t pa59 pb59 pc59 _ _ X cs _ hT59 hr59 hz59 (by have := Hn.out; omega)).mono ?_
              rintro e xc59 ⟨hxc59, _, hg⟩
              obtain rfl := hg HFX.out
              rw [Hto.out.1, Hto.out.2, Hlo.out, Hhi.out]
              clear hg hT59 hr59 hz59 ho59
              have HB63 := Lib.hid (HB62.out.trans (hxc59.mono HB62.out.size))
              have HX63 := Lib.hid ((hxc59.block _ (Array.getElem?_eq_some_iff.1 HX62.out).1).trans HX62.out)
              have Hox := Lib.hid (Hox.out.below hxc59)
              have Hda0 := Lib.hid (Hda0.out.below hxc59)
              have Hda1 := Lib.hid (Hda1.out.below hxc59)
              have HG0 := Lib.hid ((hxc59.block _ (Array.getElem?_eq_some_iff.1 HG0.out).1).trans HG0.out)
              clear hxc59
              go_upto_region 18 with (fail)
              refine wp_name (fun V => Below xc59.heap.size xc59 V ∧ V.heap[xc59.heap.size]? = some (.cells #[.int .i64 lo, .int .i64 hi'] 61 (0, 0))) ⟨(Below.refl _ _).alloc (Nat.le_refl _) _, heap_alloc_new xc59 _⟩ (fun V59 hV => ?_)
              obtain ⟨hbV59, hxV⟩ := hV
              obtain ⟨G1, hG⟩ : ∃ G, xc59.heap.size = G := ⟨_, rfl⟩
              rw [hG] at hxV ⊢
              have HG1 := Lib.hid hxV
              clear hG hxV
              have HB64 := Lib.hid (HB63.out.trans (hbV59.mono HB63.out.size))
              have HX64 := Lib.hid ((hbV59.block _ (Array.getElem?_eq_some_iff.1 HX63.out).1).trans HX63.out)
              have Hox := Lib.hid (Hox.out.below hbV59)
              have Hda0 := Lib.hid (Hda0.out.below hbV59)
              have Hda1 := Lib.hid (Hda1.out.below hbV59)
              have HG0 := Lib.hid ((hbV59.block _ (Array.getElem?_eq_some_iff.1 HG0.out).1).trans HG0.out)
              clear hbV59
              have aq := box_cells HX64.out
              have a0 := aq 0
              have a1 := aq 1
              have a2 := aq 2
              have a3 := aq 3
              have a4 := aq 4
              simp only [List.getElem?_toArray, List.getElem?_cons_zero, List.getElem?_cons_succ] at a0 a1 a2 a3 a4
              clear aq
              go_wp2_with fail
              refine (Tariff_law t a b c0 _ (HT.out.below HB64.out) Hth.out).mono ?_
              rintro e xa65 ⟨pa65, pb65, pc65, rfl, hT65, hxa65⟩
              clear a0 a1 a2 a3 a4
              have HB66 := Lib.hid (HB64.out.trans (hxa65.mono HB64.out.size))
              have HX66 := Lib.hid ((hxa65.block _ (Array.getElem?_eq_some_iff.1 HX64.out).1).trans HX64.out)
              have Hox := Lib.hid (Hox.out.below hxa65)
              have Hda0 := Lib.hid (Hda0.out.below hxa65)
              have Hda1 := Lib.hid (Hda1.out.below hxa65)
              have HG0 := Lib.hid ((hxa65.block _ (Array.getElem?_eq_some_iff.1 HG0.out).1).trans HG0.out)
              have HG1 := Lib.hid ((hxa65.block _ (Array.getElem?_eq_some_iff.1 HG1.out).1).trans HG1.out)
              go_wp2_with fail
              refine (Taps_law _ l _ (Hv.out.below HB66.out) (by have := HN.out; omega)).mono ?_
              rintro e xb65 ⟨pA65, pk65, rfl, hr65, hxb65⟩
              have hT65 := hT65.below hxb65
              have HB67 := Lib.hid (HB66.out.trans (hxb65.mono HB66.out.size))
              have HX67 := Lib.hid ((hxb65.block _ (Array.getElem?_eq_some_iff.1 HX66.out).1).trans HX66.out)
              have Hox := Lib.hid (Hox.out.below hxb65)
              have Hda0 := Lib.hid (Hda0.out.below hxb65)
              have Hda1 := Lib.hid (Hda1.out.below hxb65)
              have HG0 := Lib.hid ((hxb65.block _ (Array.getElem?_eq_some_iff.1 HG0.out).1).trans HG0.out)
              have HG1 := Lib.hid ((hxb65.block _ (Array.getElem?_eq_some_iff.1 HG1.out).1).trans HG1.out)
              go_wp2_with fail
              refine (copy_any _ cs _ (Hc.out.below HB67.out) (by have := HM.out; omega)).mono ?_
              rintro e xd65 ⟨pB65, pq65, rfl, ho65, hxd65⟩
              have hT65 := hT65.below hxd65
              have hr65 := hr65.below hxd65
              have hz65 := nums_of_own ho65
              have HB68 := Lib.hid (HB67.out.trans (hxd65.mono HB67.out.size))
              have HX68 := Lib.hid ((hxd65.block _ (Array.getElem?_eq_some_iff.1 HX67.out).1).trans HX67.out)
              have Hox := Lib.hid (Hox.out.below hxd65)
              have Hda0 := Lib.hid (Hda0.out.below hxd65)
              have Hda1 := Lib.hid (Hda1.out.below hxd65)
              have HG0 := Lib.hid ((hxd65.block _ (Array.getElem?_eq_some_iff.1 HG0.out).1).trans HG0.out)
              have HG1 := Lib.hid ((hxd65.block _ (Array.getElem?_eq_some_iff.1 HG1.out).1).trans HG1.out)
              go_wp2_with fail
              refine (Missing_any t pa65 pb65 pc65 _ _ l cs _ hT65 hr65 hz65 (by have := HN.out; omega)).mono ?_
              rintro e xc65 ⟨hxc65, _, hg⟩
              obtain ⟨MA0, Mk0, rfl, hrm⟩ := hg HF.out
              rw [HR.out, HR4.out] at hrm
              rw [HR.out, HR4.out]
              have Hrm0 := Lib.hid hrm
              clear hg hrm hT65 hr65 hz65 ho65
              have HB69 := Lib.hid (HB68.out.trans (hxc65.mono HB68.out.size))
              have HX69 := Lib.hid ((hxc65.block _ (Array.getElem?_eq_some_iff.1 HX68.out).1).trans HX68.out)
              have Hox := Lib.hid (Hox.out.below hxc65)
              have Hda0 := Lib.hid (Hda0.out.below hxc65)
              have Hda1 := Lib.hid (Hda1.out.below hxc65)
              have HG0 := Lib.hid ((hxc65.block _ (Array.getElem?_eq_some_iff.1 HG0.out).1).trans HG0.out)
              have HG1 := Lib.hid ((hxc65.block _ (Array.getElem?_eq_some_iff.1 HG1.out).1).trans HG1.out)
              clear hxc65
              have aq := box_cells HX69.out
              have a0 := aq 0
              have a1 := aq 1
              have a2 := aq 2
              have a3 := aq 3
              have a4 := aq 4
              simp only [List.getElem?_toArray, List.getElem?_cons_zero, List.getElem?_cons_succ] at a0 a1 a2 a3 a4
              clear aq
              go_wp2_with fail
              refine (Tariff_law t a b c0 _ (HT.out.below HB69.out) Hth.out).mono ?_
              rintro e xa70 ⟨pa70, pb70, pc70, rfl, hT70, hxa70⟩
              clear a0 a1 a2 a3 a4
              have HB71 := Lib.hid (HB69.out.trans (hxa70.mono HB69.out.size))
              have HX71 := Lib.hid ((hxa70.block _ (Array.getElem?_eq_some_iff.1 HX69.out).1).trans HX69.out)
              have Hox := Lib.hid (Hox.out.below hxa70)
              have Hda0 := Lib.hid (Hda0.out.below hxa70)
              have Hda1 := Lib.hid (Hda1.out.below hxa70)
              have Hrm0 := Lib.hid (Hrm0.out.below hxa70)
              have HG0 := Lib.hid ((hxa70.block _ (Array.getElem?_eq_some_iff.1 HG0.out).1).trans HG0.out)
              have HG1 := Lib.hid ((hxa70.block _ (Array.getElem?_eq_some_iff.1 HG1.out).1).trans HG1.out)
              go_wp2_with fail
              refine (Taps_law _ X _ Hox.out (by have := Hn.out; omega)).mono ?_
              rintro e xb70 ⟨pA70, pk70, rfl, hr70, hxb70⟩
              have hT70 := hT70.below hxb70
              have HB72 := Lib.hid (HB71.out.trans (hxb70.mono HB71.out.size))
              have HX72 := Lib.hid ((hxb70.block _ (Array.getElem?_eq_some_iff.1 HX71.out).1).trans HX71.out)
              have Hox := Lib.hid (Hox.out.below hxb70)
              have Hda0 := Lib.hid (Hda0.out.below hxb70)
              have Hda1 := Lib.hid (Hda1.out.below hxb70)
              have Hrm0 := Lib.hid (Hrm0.out.below hxb70)
              have HG0 := Lib.hid ((hxb70.block _ (Array.getElem?_eq_some_iff.1 HG0.out).1).trans HG0.out)
              have HG1 := Lib.hid ((hxb70.block _ (Array.getElem?_eq_some_iff.1 HG1.out).1).trans HG1.out)
              go_wp2_with fail
              refine (copy_any _ cs _ (Hc.out.below HB72.out) (by have := HM.out; omega)).mono ?_
              rintro e xd70 ⟨pB70, pq70, rfl, ho70, hxd70⟩
              have hT70 := hT70.below hxd70
              have hr70 := hr70.below hxd70
              have hz70 := nums_of_own ho70
              have HB73 := Lib.hid (HB72.out.trans (hxd70.mono HB72.out.size))
              have HX73 := Lib.hid ((hxd70.block _ (Array.getElem?_eq_some_iff.1 HX72.out).1).trans HX72.out)
              have Hox := Lib.hid (Hox.out.below hxd70)
              have Hda0 := Lib.hid (Hda0.out.below hxd70)
              have Hda1 := Lib.hid (Hda1.out.below hxd70)
              have Hrm0 := Lib.hid (Hrm0.out.below hxd70)
              have HG0 := Lib.hid ((hxd70.block _ (Array.getElem?_eq_some_iff.1 HG0.out).1).trans HG0.out)
              have HG1 := Lib.hid ((hxd70.block _ (Array.getElem?_eq_some_iff.1 HG1.out).1).trans HG1.out)
              go_wp2_with fail
              refine (Missing_any t pa70 pb70 pc70 _ _ X cs _ hT70 hr70 hz70 (by have := Hn.out; omega)).mono ?_
              rintro e xc70 ⟨hxc70, _, hg⟩
              obtain ⟨MA1, Mk1, rfl, hrm⟩ := hg HFX.out
              rw [Hmi.out, HR.out, HR4.out] at hrm
              rw [Hmi.out, HR.out, HR4.out]
              have Hrm1 := Lib.hid hrm
              clear hg hrm hT70 hr70 hz70 ho70
              have HB74 := Lib.hid (HB73.out.trans (hxc70.mono HB73.out.size))
              have HX74 := Lib.hid ((hxc70.block _ (Array.getElem?_eq_some_iff.1 HX73.out).1).trans HX73.out)
              have Hox := Lib.hid (Hox.out.below hxc70)
              have Hda0 := Lib.hid (Hda0.out.below hxc70)
              have Hda1 := Lib.hid (Hda1.out.below hxc70)
              have Hrm0 := Lib.hid (Hrm0.out.below hxc70)
              have HG0 := Lib.hid ((hxc70.block _ (Array.getElem?_eq_some_iff.1 HG0.out).1).trans HG0.out)
              have HG1 := Lib.hid ((hxc70.block _ (Array.getElem?_eq_some_iff.1 HG1.out).1).trans HG1.out)
              clear hxc70
              go_wp2_with fail
              refine (ints_any _ _ D D _ Hda0.out Hda1.out ⟨by have := HD10.out; omega, by have := HD10.out; omega⟩).mono ?_
              rintro e xi ⟨rfl, hxi⟩
              rw [decide_eq_true (rfl : D = D)]
              have HB75 := Lib.hid (HB74.out.trans (hxi.mono HB74.out.size))
              have HX75 := Lib.hid ((hxi.block _ (Array.getElem?_eq_some_iff.1 HX74.out).1).trans HX74.out)
              have Hox := Lib.hid (Hox.out.below hxi)
              have Hda0 := Lib.hid (Hda0.out.below hxi)
              have Hda1 := Lib.hid (Hda1.out.below hxi)
              have Hrm0 := Lib.hid (Hrm0.out.below hxi)
              have Hrm1 := Lib.hid (Hrm1.out.below hxi)
              have HG0 := Lib.hid ((hxi.block _ (Array.getElem?_eq_some_iff.1 HG0.out).1).trans HG0.out)
              have HG1 := Lib.hid ((hxi.block _ (Array.getElem?_eq_some_iff.1 HG1.out).1).trans HG1.out)
              clear hxi
              have rq : ∀ W : World, (binOp .neq 61 (.agg #[.int .i64 lo, .int .i64 hi']) (.agg #[.int .i64 lo, .int .i64 hi'])).run Try.prog W = .ok (.bool false) W := fun W => rng_neq W lo hi'
              have rg : ∀ (W : World) (x y : Operand), (eqGuard .neq 61 x y (.agg #[.int .i64 lo, .int .i64 hi']) (.agg #[.int .i64 lo, .int .i64 hi'])).run Try.prog W = .ok () W := fun W x y => rng_guardN W x y _ _
              have uq := box_cells HG0.out
              have u0 := uq 0
              have u1 := uq 1
              simp only [List.getElem?_toArray, List.getElem?_cons_zero, List.getElem?_cons_succ] at u0 u1
              clear uq
              have yq := box_cells HG1.out
              have y0 := yq 0
              have y1 := yq 1
              simp only [List.getElem?_toArray, List.getElem?_cons_zero, List.getElem?_cons_succ] at y0 y1
              clear yq
              obtain ⟨W2, hW2⟩ : ∃ W2, xi = W2 := ⟨_, rfl⟩
              rw [hW2] at HB75 HX75 Hrm0 Hrm1 u0 u1 y0 y1 ⊢
              clear hW2
              go_wp2
              clear u0 u1 y0 y1 rq rg
              go_loopw [25] (fun s wr => ∃ k : Nat, k ≤ 4 ∧ s = .int .i64 k ∧ Below W2.heap.size W2 wr) (fun s wr => 4 - (intOf s).toNat)
              case atStart => exact ⟨0, by omega, rfl, Below.refl _ _⟩
              case round =>
                obtain ⟨k, hk, rfl, hbr⟩ := hrel
                have Hbr := Lib.hid hbr
                by_cases hlt : k < 4
                · obtain ⟨bm, om, row, u, rfl, hrow, du, hnu, _⟩ := (Hrm0.out.below hbr).at_ (n := 4) (k := k) (by have := HR4.out; omega)
                  obtain ⟨bn, on, row2, u2, rfl, hrow2, dx, hnu2, _⟩ := (Hrm1.out.below hbr).at_ (n := 4) (k := k) (by have := HR4.out; omega)
                  obtain rfl : row = row2 := Option.some.inj (hrow.symm.trans hrow2)
                  have ik : (k : Int) < 4 := by omega
                  have hnl := HRl.out row (List.mem_of_getElem? hrow)
                  obtain ⟨Au1, cu1, rfl, _, _⟩ := hnu.form
                  obtain ⟨Au2, cu2, rfl, _, _⟩ := hnu2.form
                  obtain ⟨rn, hrn⟩ : ∃ rn, row.length = rn := ⟨_, rfl⟩
                  have hd : Below wr.heap.size wr wr.drew := (Below.refl _ _).drew
                  have Hnu := Lib.hid hnu
                  have Hnu2 := Lib.hid hnu2
                  have Hnl := Lib.hid hnl
                  rw [hrn] at du dx Hnu Hnu2
                  clear hrow hrow2 hnu hnu2 hnl hrn
                  go_upto_region 25 with (fail)
                  refine wp_region_noPanic ?_
                  refine wp_region_pick [0, 1, 2, 3, 4, 5, 6, 7] [8, 9] (fun _ => true) (fun w' => Below wr.heap.size wr w') (by kernel_rfl) (by kernel_rfl) (fun _ _ _ _ _ h => h) hd (fun hne => ?_)
                  have n0 := fun y : Meets (fun w' => Below wr.heap.size wr w') => cell_below y.property du
                  have n1 := fun y : Meets (fun w' => Below wr.heap.size wr w') => cell_below y.property dx
                  simp only [pick, pickN, List.filterMap_cons, List.filterMap_nil, List.getElem?_cons_zero, List.getElem?_cons_succ, Option.map_some]
                  repeat (change wpQuiet _ _ _ _ (_ :: _) _; go_big_quiet_step (fail))
                  refine wpQuiet_nil ?_
                  clear n0 n1 hne du dx
                  refine wpSeqP_step (fun K hK => ?_)
                  go_simp
                  refine (ints_any _ _ row row _ (Hnu.out.below hd) (Hnu2.out.below hd) ⟨Hnl.out, Hnl.out⟩).mono ?_
                  rintro e w6 ⟨rfl, hb6⟩
                  have hb36 := hd.trans (hb6.mono hd.size)
                  rw [decide_eq_true (rfl : row = row)]
                  refine hK.out _ _ (fun _ => hb36) ?_
                  clear hK K
                  refine wpSeqP_step (fun K hK => ?_)
                  go_simp
                  refine hK.out _ _ (fun _ => hb36) ?_
                  clear hK K
                  refine wpSeqP_nil ?_
                  refine NoPanic.normal ?_
                  have Hb36 := Lib.hid hb36
                  clear hb36 hb6 hd hbr
                  go_wp2
                  go_roundw
                  case rel => exact ⟨k + 1, by omega, by go_num, Hbr.out.trans (Hb36.out.mono Hbr.out.size)⟩
                  case measure => simp [intOf]; omega
                · have ik : ¬ (k : Int) < 4 := by omega
                  clear hbr
                  have HB76 := Lib.hid (HB75.out.trans (Hbr.out.mono HB75.out.size))
                  have HX76 := Lib.hid ((Hbr.out.block _ (Array.getElem?_eq_some_iff.1 HX75.out).1).trans HX75.out)
                  go_wp2_with fail
                  refine (awake_any _).mono ?_
                  rintro e wz77 ⟨rfl, hbz77⟩
                  go_wp2
                  go_ret
                  exact ⟨rfl, HB76.out.trans (hbz77.mono HB76.out.size)⟩
end Go.Proofs.Ytmbkpfkkohpnkaa
