import Derived.Test.YtobeffjdfhkjeaaUp
import Derived.Test.YtobeffjdfhkjeaaS
import Derived.Test.YtobeffjdfhkjeaaW7
import Derived.Deep.CutRange
import Derived.Deep.Cut
set_option linter.unusedVariables false
set_option linter.unusedSimpArgs false
namespace Go.Proofs.Ytobeffjdfhkjeaa
open Go Go.Proofs Go.RowKit


def StratAt (w : World) (u : Value) (s : Strat) : Prop := NumsAt .i64 w u s.seen

theorem wp_region_pickA {P : Program} {Q : Exit → Act → World → Prop} {id : Nat} {a : Act} {w : World} {ol : List Oper} (fs : List Nat) (m : Nat) (kp : Nat → Bool) (S : World → Prop) (hm : P.follows .mixedOrders = true)
    (hB : (Region.noSelect ol.toArray && (frontPickB .any ol.toArray kp fs (Array.replicate ol.toArray.size false) && decide (fs.length + m = ol.length))) = true)
    (hQ : ∀ c a d v w, Q (.panic c) (a.put d v) w → Q (.panic c) a w) (hS : S w.drew)
    (h : Nonempty (Meets S) → wpQuiet P ol.toArray (fun w' => ∃ x : Meets S, w' = x.val) (fun a' => wpAnyF P .any ol.toArray Q S kp m (listAll fs (Array.replicate ol.toArray.size false)) a' w.drew) (pick ol fs) a) :
    (Code.region id ol.toArray true).wp P Q a w := by
  simp only [Bool.and_eq_true, decide_eq_true_eq] at hB
  obtain ⟨h1, h2, h3⟩ := hB
  refine wp_region_front kp S hm ?_
  have hq' := h ⟨⟨w.drew, hS⟩⟩
  have := wpAnyF_pick (P := P) (ops := ol.toArray) (Q := Q) (md := .any) (S := S) (kp := kp) h1 hQ m fs (Array.replicate ol.toArray.size false) a w.drew h2 hS (by simpa using hq')
  rw [h3] at this
  simpa using this

set_option maxRecDepth 100000 in
set_option maxHeartbeats 1600000 in
theorem plus_any (v u : Value) (a b : List Int) (w : World) (hv : NumsAt .i64 w v a) (hu : NumsAt .i64 w u b) (hl : b.length = a.length) (ha : ∀ x ∈ a, -1000000 ≤ x ∧ x ≤ 1000000) (hb : ∀ x ∈ b, -1000000 ≤ x ∧ x ≤ 1000000) (h5 : a.length ≤ 1000) :
    Calls Try.prog 84 #[v, u] w (GivesInts w (plusL a b)) := by
  obtain ⟨A, c, rfl, hc, hcm⟩ := hv.form
  obtain ⟨A', c', rfl, hc', hcm'⟩ := hu.form
  obtain ⟨i3, hi3, hx0, hx1, hx2⟩ := info_parts info3
  have hl1 := Nat.le_of_eq hl
  have hl2 := Nat.le_of_eq hl.symm
  have Hl := Lib.hid hl
  have Ha := Lib.hid ha
  have Hb := Lib.hid hb
  clear hl ha hb
  go_enter Try.func84, Try.ntmps84
  go_wp2
  go_loopw [5, 6] (fun x i wr => ∃ (k : Nat) (A2 : Option Addr) (c2 : Nat), k ≤ a.length ∧ i = .int .i64 k ∧ x = .slice A2 k c2 ∧ Below w.heap.size w wr ∧ wr.ownsRow w.heap.size 3 1 (.slice A2 k c2) k (((plusL a b).take k).map (.int .i64))) (fun x i wr => a.length - (intOf i).toNat)
  case atStart => exact ⟨0, none, 0, by omega, rfl, rfl, Below.refl _ _, World.ownsRow_nil _ _ _ _⟩
  case round =>
    obtain ⟨k, A2, c2, hk, rfl, rfl, hbr, hown⟩ := hrel
    obtain ⟨wo, rfl⟩ : ∃ wo : World, wo = wr := ⟨_, rfl⟩
    by_cases hlt : k < a.length
    · obtain ⟨b1, o1, x, rfl, hx, dx0, hbq1⟩ := hv.at_ hlt
      obtain ⟨b2, o2, y, rfl, hy, dy0, hbq2⟩ := hu.at_ (k := k) (by omega)
      have dx := cell_below hbr dx0
      have dy := cell_below hbr dy0
      clear dx0 dy0
      have hxb := Ha.out x (List.mem_of_getElem? hx)
      have hyb := Hb.out y (List.mem_of_getElem? hy)
      have hpl : (plusL a b)[k]? = some (x + y) := by
        simp [plusL, List.getElem?_zipWith, hx, hy]
      have Hpl := Lib.hid hpl
      clear hx hy hpl
      have hltI : (k : Int) < (a.length : Int) := by omega
      have hltJ : (k : Int) < (b.length : Int) := by omega
      have hwr : IntKind.i64.wrap (x + y) = x + y := IntWalk.i64_in _ (by omega)
      have hd : Below wo.heap.size wo wo.drew := (Below.refl _ _).drew
      have ex := cell_below hd dx
      have ey := cell_below hd dy
      have hownd := own_below hown hd
      have hsz := hbr.size
      have hs0 : wo.heap.size = wo.drew.heap.size := rfl
      rw [hs0] at hsz
      go_wp2_with fail
      refine wp_region_noPanic ?_
      refine wp_region_pick [0, 1, 2, 3, 4, 5, 6, 7, 8, 9] [10, 11, 12] (fun _ => true) (fun w' => w'.cell? ⟨b1, o1 + k, none⟩ = some (.int .i64 x) ∧ w'.cell? ⟨b2, o2 + k, none⟩ = some (.int .i64 y)) (by kernel_rfl) (by kernel_rfl) (fun _ _ _ _ _ h => h) ⟨ex, ey⟩ (fun hne => ?_)
      have m0 := fun q : Meets (fun w' => w'.cell? ⟨b1, o1 + k, none⟩ = some (.int .i64 x) ∧ w'.cell? ⟨b2, o2 + k, none⟩ = some (.int .i64 y)) => q.property
      have x0 := fun q => (m0 q).1
      have x1 := fun q => (m0 q).2
      clear m0
      simp only [pick, pickN, List.filterMap_cons, List.filterMap_nil, List.getElem?_cons_zero, List.getElem?_cons_succ, Option.map_some]
      repeat (change wpQuiet _ _ _ _ (_ :: _) _; go_big_quiet_step (fail))
      refine wpQuiet_nil ?_
      clear x0 x1 hne hwr
      generalize wo.drew = wd at *
      have hda : Below wd.heap.size wd (wd.alloc (.cells #[.int .i64 (x + y)] 3)) := (Below.refl _ _).alloc (Nat.le_refl _) _
      have fx := cell_below hda ex
      have fy := cell_below hda ey
      refine wpSeqP_step (fun K hK => ?_)
      go_simp
      refine hK.out _ _ (fun _ => ⟨fx, fy⟩) ?_
      clear hK K
      refine wpSeqP_step (fun K hK => ?_)
      refine step_append_src _ rfl (.tmp 13) (.tmp 23) 35 rfl w.heap.size 3 i3 _ 1 8 Try.underlying35 hi3 hx0 hx1 hx2 rfl (by omega) (.slice A2 k c2) k _ rfl (hownd.alloc _) (some ⟨wd.heap.size, 0, none⟩) 1 1 [.int .i64 (x + y)] rfl (src_new wd [.int .i64 (x + y)] 3 1 1 rfl) (by simp [Value.oneCell']) (by simp [maxLen]; omega) (by omega) (by simp; omega) ?_
      intro A6 c6 w6 hown6 hg6
      have hb6 : Below w.heap.size w w6 := below_grown (((hbr.trans (hd.mono hbr.size))).alloc (by omega) (.cells #[.int .i64 (x + y)] 3)) hg6 (by simp; omega) (hownd.alloc _) (Nat.le_refl _)
      have gx : w6.cell? ⟨b1, o1 + k, none⟩ = some (.int .i64 x) := hg6.cell fx (own_ne hownd hbq1)
      have gy : w6.cell? ⟨b2, o2 + k, none⟩ = some (.int .i64 y) := hg6.cell fy (own_ne hownd hbq2)
      refine hK.out _ _ (fun _ => ⟨gx, gy⟩) ?_
      clear hK K
      refine wpSeqP_step (fun K hK => ?_)
      go_simp
      refine hK.out _ _ (fun _ => ⟨gx, gy⟩) ?_
      clear hK K
      refine wpSeqP_nil ?_
      refine NoPanic.normal ?_
      go_wp2
      go_roundw
      case rel =>
        refine ⟨k + 1, A6, c6, by omega, by go_num, rfl, hb6, ?_⟩
        rw [List.take_add_one, Hpl.out, List.map_append]
        exact hown6
      case measure => simp [intOf]; omega
    · obtain rfl : k = a.length := by omega
      have hpl : (plusL a b).length = a.length := plusL_len Hl.out
      have Hpl := Lib.hid hpl
      clear hpl
      go_wp2
      go_ret
      refine ⟨A2, c2, by rw [Hpl.out]; rfl, ?_, hbr⟩
      rw [List.take_of_length_le (by rw [Hpl.out]; exact Nat.le_refl _)] at hown
      rw [Hpl.out]
      exact hown

set_option maxRecDepth 100000 in
set_option maxHeartbeats 3200000 in
theorem Truths_any (n : Int) (s : Strat) (u : Value) (w : World) (hu : NumsAt .i64 w u s.seen) (hn5 : n ≤ 5) (hs : stratB n s = true) (h4 : s.hi - sumL s.seen ≤ 4) :
    Calls Try.prog 68 #[.agg #[.int .i64 s.coins, .int .i64 s.lo, .int .i64 s.hi, u]] w (GivesRows w (truthsL s)) := by
  obtain ⟨A, c, rfl, hc, hcm⟩ := hu.form
  obtain ⟨k1, k2, k3, k4⟩ := strat_nums hs
  have hok : SumOk s.seen := seen_ok hn5 hs
  have hsn := (stratB_iff.1 hs).2.2.2.2.1
  have hs5 : s.seen.length ≤ 5 := by omega
  obtain ⟨i5, hi5, hy0, hy1, hy2⟩ := info_parts info35
  obtain ⟨mo, hmo⟩ : ∃ mo : Nat, s.hi - sumL s.seen = (mo : Int) := ⟨(s.hi - sumL s.seen).toNat, by omega⟩
  have hmo4 : mo ≤ 4 := by omega
  have hupl := uptoL_len s.seen.length mo [] hmo4
  have hpow : 5 ^ s.seen.length ≤ 3125 := by
    have h := Nat.pow_le_pow_right (show 0 < 5 by omega) hs5
    simpa using h
  have hT : truthsL s = ((uptoL s.seen.length mo []).map (plusL s.seen)).filter (partB s) := by
    unfold truthsL
    rw [hmo]
    rfl
  have Hmo := Lib.hid hmo
  have HT := Lib.hid hT
  have Hs := Lib.hid hs
  have Hk4 := Lib.hid k4
  clear hmo hT hs k4 hsn
  have p0 : (w.alloc (.cells #[.int .i64 s.coins, .int .i64 s.lo, .int .i64 s.hi, .slice A s.seen.length c] 44)).drew.cell? ⟨w.heap.size, 0, none⟩ = some (.int .i64 s.coins) := by simp [go_sem]
  have p1 : (w.alloc (.cells #[.int .i64 s.coins, .int .i64 s.lo, .int .i64 s.hi, .slice A s.seen.length c] 44)).drew.cell? ⟨w.heap.size, 1, none⟩ = some (.int .i64 s.lo) := by simp [go_sem]
  have p2 : (w.alloc (.cells #[.int .i64 s.coins, .int .i64 s.lo, .int .i64 s.hi, .slice A s.seen.length c] 44)).drew.cell? ⟨w.heap.size, 2, none⟩ = some (.int .i64 s.hi) := by simp [go_sem]
  have p3 : (w.alloc (.cells #[.int .i64 s.coins, .int .i64 s.lo, .int .i64 s.hi, .slice A s.seen.length c] 44)).drew.cell? ⟨w.heap.size, 3, none⟩ = some (.slice A s.seen.length c) := by simp [go_sem]
  have hb0 : Below w.heap.size w (w.alloc (.cells #[.int .i64 s.coins, .int .i64 s.lo, .int .i64 s.hi, .slice A s.seen.length c] 44)).drew := ((Below.refl _ _).alloc (Nat.le_refl _) _).drew
  go_enter Try.func68, Try.ntmps68
  go_wp2_with fail
  refine wp_region_noPanic ?_
  refine wp_region_pick [0, 1, 2, 3] [4, 5, 6] (fun _ => true) (fun w' => w'.cell? ⟨w.heap.size, 0, none⟩ = some (.int .i64 s.coins) ∧ w'.cell? ⟨w.heap.size, 1, none⟩ = some (.int .i64 s.lo) ∧ w'.cell? ⟨w.heap.size, 2, none⟩ = some (.int .i64 s.hi) ∧ w'.cell? ⟨w.heap.size, 3, none⟩ = some (.slice A s.seen.length c)) (by kernel_rfl) (by kernel_rfl) (fun _ _ _ _ _ h => h) ⟨p0, p1, p2, p3⟩ (fun hne => ?_)
  have m0 := fun q : Meets (fun w' => w'.cell? ⟨w.heap.size, 0, none⟩ = some (.int .i64 s.coins) ∧ w'.cell? ⟨w.heap.size, 1, none⟩ = some (.int .i64 s.lo) ∧ w'.cell? ⟨w.heap.size, 2, none⟩ = some (.int .i64 s.hi) ∧ w'.cell? ⟨w.heap.size, 3, none⟩ = some (.slice A s.seen.length c)) => q.property
  have x0 := fun q => (m0 q).1
  have x1 := fun q => (m0 q).2.1
  have x2 := fun q => (m0 q).2.2.1
  have x3 := fun q => (m0 q).2.2.2
  clear m0
  generalize (w.alloc (.cells #[.int .i64 s.coins, .int .i64 s.lo, .int .i64 s.hi, .slice A s.seen.length c] 44)).drew = w0 at *
  simp only [pick, pickN, List.filterMap_cons, List.filterMap_nil, List.getElem?_cons_zero, List.getElem?_cons_succ, Option.map_some]
  repeat (change wpQuiet _ _ _ _ (_ :: _) _; go_big_quiet_step (fail))
  refine wpQuiet_nil ?_
  clear x0 x1 x2 x3 hne
  refine wpSeqP_step (fun K hK => ?_)
  go_simp
  refine (Unseen_any s _ w0 (hu.below hb0) hok (by omega) (by omega)).mono ?_
  rintro e w1 ⟨rfl, hb1⟩
  have hw1 := hb0.trans (hb1.mono hb0.size)
  replace p0 := cell_below hb1 p0
  replace p1 := cell_below hb1 p1
  replace p2 := cell_below hb1 p2
  replace p3 := cell_below hb1 p3
  refine hK.out _ _ (fun _ => ⟨p0, p1, p2, p3⟩) ?_
  clear hK K
  have hup : ∀ W : World, Calls Try.prog 65 #[.int .i64 (s.seen.length : Int), .int .i64 (s.hi - sumL s.seen), .slice none 0 0] W (GivesRows W (uptoL s.seen.length mo [])) := fun W => by
    rw [Hmo.out]
    exact upto_any s.seen.length mo s.seen.length _ [] W ⟨none, 0, rfl, by simp, by simp [maxLen], by simp⟩ (by simp) hs5 hmo4
  refine wpSeqP_step (fun K hK => ?_)
  go_simp
  refine (hup _).mono ?_
  rintro e w2 ⟨A2, c2, us2, rfl, o2, q2, hb2⟩
  have hw2 := hw1.trans (hb2.mono hw1.size)
  replace p0 := cell_below hb2 p0
  replace p1 := cell_below hb2 p1
  replace p2 := cell_below hb2 p2
  replace p3 := cell_below hb2 p3
  refine hK.out _ _ (fun _ => ⟨p0, p1, p2, p3⟩) ?_
  clear hK K hup
  refine wpSeqP_step (fun K hK => ?_)
  go_simp
  refine hK.out _ _ (fun _ => ⟨p0, p1, p2, p3⟩) ?_
  clear hK K
  refine wpSeqP_nil ?_
  refine NoPanic.normal ?_
  have r2 := rows_of_own o2 q2
  obtain ⟨up, hup⟩ : ∃ up, uptoL s.seen.length mo [] = up := ⟨_, rfl⟩
  have hmem : ∀ x ∈ up, x.length = s.seen.length ∧ ∀ z ∈ x, 0 ≤ z ∧ z ≤ 4 := fun x hx => by
    rw [← hup] at hx
    obtain ⟨y, e, hy, h0, hs⟩ := (mem_uptoL _ _ _ _).1 hx
    obtain rfl : x = y := e
    refine ⟨hy, fun z hz => ⟨h0 z hz, ?_⟩⟩
    obtain ⟨j, hj, rfl⟩ := List.getElem_of_mem hz
    have := (elem_le_sum h0 j).2
    rw [List.getElem?_eq_getElem hj, Option.getD_some] at this
    omega
  rw [hup] at hupl r2 HT ⊢
  have Hmem := Lib.hid hmem
  clear hup hmem o2 q2
  go_wp2_with fail
  go_loopw [4, 5] (fun x i wr => ∃ (k : Nat) (A3 : Option Addr) (c3 : Nat) (us : List Value) (T : List (List Int)), k ≤ up.length ∧ i = .int .i64 k ∧ x = .slice A3 T.length c3 ∧ T = ((up.take k).map (plusL s.seen)).filter (partB s) ∧ T.length ≤ k ∧ Below w2.heap.size w2 wr ∧
      wr.ownsRow w2.heap.size 35 1 (.slice A3 T.length c3) T.length us ∧ RowsOwn wr w2.heap.size us T) (fun x i wr => up.length - (intOf i).toNat)
  case atStart => exact ⟨0, none, 0, [], [], by omega, rfl, rfl, rfl, by simp, Below.refl _ _, World.ownsRow_nil _ _ _ _, ⟨by simp, by intro j l h; simp at h⟩⟩
  case round =>
    obtain ⟨k, A3, c3, us, T, hk, rfl, rfl, hTk, hTl, hbr, hown, hro⟩ := hrel
    obtain ⟨wo, rfl⟩ : ∃ wo : World, wo = wr := ⟨_, rfl⟩
    have HTk := Lib.hid hTk
    have Hro := Lib.hid hro
    clear hTk hro
    replace p0 := cell_below hbr p0
    replace p1 := cell_below hbr p1
    replace p2 := cell_below hbr p2
    replace p3 := cell_below hbr p3
    have huo := (hu.below hw2).below hbr
    have hsz := hbr.size
    by_cases hlt : k < up.length
    · obtain ⟨b2, o2, l, x, rfl, hl, dl, hx, hbx⟩ := r2.at_ hlt
      have hxl := (Hmem.out l (List.mem_of_getElem? hl)).1
      have hxb := (Hmem.out l (List.mem_of_getElem? hl)).2
      have Hl := Lib.hid hl
      clear hl
      have hltI : (k : Int) < (up.length : Int) := by omega
      replace dl := cell_below hbr dl
      have hxo := hx.below hbr
      obtain ⟨D, F, rfl, hD, hD'⟩ := hxo.form
      have Hxl := Lib.hid hxl
      have Hxb := Lib.hid hxb
      clear hxl hxb
      have hd : Below wo.heap.size wo wo.drew := (Below.refl _ _).drew
      go_wp2_with fail
      refine wp_region_noPanic ?_
      refine wp_region_pick [0, 1, 2, 3, 4, 5] [6, 7] (fun _ => true) (fun w' => w'.cell? ⟨w.heap.size, 3, none⟩ = some (.slice A s.seen.length c) ∧ w'.cell? ⟨b2, o2 + k, none⟩ = some (.slice D l.length F)) (by kernel_rfl) (by kernel_rfl) (fun _ _ _ _ _ h => h) ⟨cell_below hd p3, cell_below hd dl⟩ (fun hne => ?_)
      have m0 := fun q : Meets (fun w' => w'.cell? ⟨w.heap.size, 3, none⟩ = some (.slice A s.seen.length c) ∧ w'.cell? ⟨b2, o2 + k, none⟩ = some (.slice D l.length F)) => q.property
      have x0 := fun q => (m0 q).1
      have x1 := fun q => (m0 q).2
      clear m0
      simp only [pick, pickN, List.filterMap_cons, List.filterMap_nil, List.getElem?_cons_zero, List.getElem?_cons_succ, Option.map_some]
      repeat (change wpQuiet _ _ _ _ (_ :: _) _; go_big_quiet_step (fail))
      refine wpQuiet_nil ?_
      clear x0 x1 hne
      refine wpSeqP_step (fun K hK => ?_)
      go_simp
      refine (plus_any _ _ s.seen l _ (huo.below hd) (hxo.below hd) Hxl.out (fun z hz => by have := Hk4.out z hz; omega) (fun z hz => by have := Hxb.out z hz; omega) (by omega)).mono ?_
      rintro e w3 ⟨A5, c5, rfl, o5, hb3⟩
      have hb3d : Below wo.heap.size wo w3 := hd.trans hb3
      replace p0 := cell_below hb3d p0
      replace p1 := cell_below hb3d p1
      replace p2 := cell_below hb3d p2
      replace p3 := cell_below hb3d p3
      have dl3 := cell_below hb3d dl
      refine hK.out _ _ (fun _ => ⟨p3, dl3⟩) ?_
      clear hK K
      refine wpSeqP_step (fun K hK => ?_)
      go_simp
      refine hK.out _ _ (fun _ => ⟨p3, dl3⟩) ?_
      clear hK K
      refine wpSeqP_nil ?_
      refine NoPanic.normal ?_
      have hpl : (plusL s.seen l).length = s.seen.length := plusL_len Hxl.out
      have hpok : SumOk (plusL s.seen l) := sumOk_of (by omega) (fun z hz => by
        obtain ⟨j, hj, rfl⟩ := List.getElem_of_mem hz
        have e := plusL_at (a := s.seen) (b := l) (c := j) Hxl.out
        rw [List.getElem?_eq_getElem hj, Option.getD_some] at e
        rw [e]
        have h5 := seen_at Hs.out j
        cases el : l[j]? with
        | none => simp; omega
        | some z' =>
          have := Hxb.out z' (List.mem_of_getElem? el)
          simp
          omega)
      have hpl' := Nat.le_of_eq hpl
      have n5 := nums_of_own o5
      have hown3 := own_below hown hb3d
      have hsz3 := hb3d.size
      have hp5 : (plusL s.seen l).length ≤ 5 := by omega
      have Hpl := Lib.hid hpl
      have o5' := own_mono o5 (base' := w2.heap.size) (by show w2.heap.size ≤ wo.heap.size; exact hsz)
      have Hstep : Hid (((up.take (k + 1)).map (plusL s.seen)).filter (partB s) = T ++ if partB s (plusL s.seen l) then [plusL s.seen l] else []) := by
        show ((up.take (k + 1)).map (plusL s.seen)).filter (partB s) = _
        rw [List.take_add_one, Hl.out, List.map_append, List.filter_append, ← HTk.out]
        cases hp : partB s (plusL s.seen l) <;> simp [hp]
      obtain ⟨pl, hplv⟩ : ∃ pl, plusL s.seen l = pl := ⟨_, rfl⟩
      rw [hplv] at hpok hpl' n5 hp5 o5' Hstep ⊢
      have Ho5 := Lib.hid o5'
      clear hplv hpl o5 o5'
      cases hp : partB s pl with
      | true =>
        have Hp := Lib.hid hp
        go_wp2_with (first
          | (go_at_call 36; refine (Gives.to hp (Part_any s _ _ pl _ ((huo.below hb3d)) n5 hpl' hpok)).mono ?_; rintro e w4 ⟨rfl, hb4⟩; have hown4 := own_below hown3 hb4; have hs4 := hb4.size)
          | (at_builtin; refine wpList_append_src _ rfl (.tmp 29) (.tmp 31) 25 rfl w2.heap.size 35 i5 _ 1 24 Try.underlying25 hi5 hy0 hy1 hy2 rfl (by omega) _ T.length us rfl (hown4.alloc _) (some ⟨w4.heap.size, 0, none⟩) 1 1 [.slice A5 pl.length c5] rfl (src_new w4 [.slice A5 pl.length c5] 35 1 1 rfl) (by simp [Value.oneCell']) (by simp [maxLen]; omega) (by omega) (by simp; omega) ?_; intro v6 w6 hown6 hg6 hat6; obtain ⟨A6, c6, rfl⟩ := own_form hown6))
        have hb34 : Below wo.heap.size wo w4 := hb3d.trans (hb4.mono hb3d.size)
        have hba : Below w2.heap.size w2 (w4.alloc (.cells #[.slice A5 pl.length c5] 35)) := (hbr.trans (hb34.mono hbr.size)).alloc (by omega) _
        have hg7 : (w4.alloc (.cells #[.slice A5 pl.length c5] 35)).grownBy w6 (Value.slice A3 T.length c3).ownBlock := hg6
        go_roundw
        case rel =>
          have e1 : (T ++ [pl]).length = T.length + 1 := by simp
          refine ⟨k + 1, A6, c6, us ++ [.slice A5 pl.length c5], T ++ [pl], by omega, by go_num, by rw [e1], by rw [Hstep.out, Hp.out]; rfl, by omega, below_grown hba hg7 (by simp; omega) (hown4.alloc _) (Nat.le_refl _), by rw [e1]; exact hown6, ?_⟩
          have h1 : RowsOwn (w4.alloc (.cells #[.slice A5 pl.length c5] 35)) w2.heap.size us T := (Hro.out.below hb34).below ((Below.refl _ _).alloc (Nat.le_refl _) _)
          have h2 := h1.kept (hown4.alloc _) (by decide) hg7
          exact h2.snoc (((own_below Ho5.out hb4).alloc _).kept hg7 (own_apart (own_below Ho5.out hb4) hown4 (by decide)))
        case measure => simp [intOf]; omega
      | false =>
        have Hp := Lib.hid hp
        go_wp2_with (go_at_call 36; refine (Gives.to hp (Part_any s _ _ pl _ ((huo.below hb3d)) n5 hpl' hpok)).mono ?_; rintro e w4 ⟨rfl, hb4⟩)
        have hb34 : Below wo.heap.size wo w4 := hb3d.trans (hb4.mono hb3d.size)
        go_roundw
        case rel => exact ⟨k + 1, A3, c3, us, T, by omega, by go_num, rfl, by rw [Hstep.out, Hp.out]; simp, by omega, hbr.trans (hb34.mono hbr.size), own_below hown hb34, Hro.out.below hb34⟩
        case measure => simp [intOf]; omega
    · obtain rfl : k = up.length := by omega
      have hTs : T = truthsL s := by rw [HT.out, HTk.out, List.take_length]
      have HTs := Lib.hid hTs
      clear hTs
      go_wp2
      go_ret
      rw [← HTs.out]
      exact ⟨A3, c3, us, rfl, own_mono hown hw2.size, Hro.out.mono hw2.size, hw2.trans (hbr.mono hw2.size)⟩

structure Box2 (w : World) (b : Nat) (x0 x1 : Int) : Prop where
  c0 : w.cell? ⟨b, 0, none⟩ = some (.int .i64 x0)
  c1 : w.cell? ⟨b, 1, none⟩ = some (.int .i64 x1)
  f0 : w.frozen? ⟨b, 0, none⟩ = false
  f1 : w.frozen? ⟨b, 1, none⟩ = false
  lt : b < w.heap.size
theorem Box2.below {w w' : World} {b : Nat} {x0 x1 : Int} (h : Box2 w b x0 x1) (hb : Below w.heap.size w w') : Box2 w' b x0 x1 :=
  ⟨cell_below hb h.c0, cell_below hb h.c1, (hb.frozen (p := ⟨b, 0, none⟩) h.lt).trans h.f0, (hb.frozen (p := ⟨b, 1, none⟩) h.lt).trans h.f1, Nat.lt_of_lt_of_le h.lt hb.size⟩
theorem Box2.new (w : World) (x0 x1 : Int) (t : TypeId) : Box2 (w.alloc (.cells #[.int .i64 x0, .int .i64 x1] t)) w.heap.size x0 x1 :=
  ⟨by simp [go_sem], by simp [go_sem], by simp [go_sem], by simp [go_sem], by simp⟩
theorem Box2.set {w : World} {b : Nat} {x0 x1 : Int} (h : Box2 w b x0 x1) (y0 y1 : Int) : Box2 ((w.setCell ⟨b, 0, none⟩ (.int .i64 y0)).setCell ⟨b, 1, none⟩ (.int .i64 y1)) b y0 y1 := by
  refine ⟨?_, ?_, ?_, ?_, by simpa using h.lt⟩
  · rw [World.cell?_setCell_other _ _ _ _ (by simp)]
    exact World.cell?_setCell_same' _ _ _ (by rw [h.c0]; rfl)
  · refine World.cell?_setCell_same' _ _ _ ?_
    rw [World.cell?_setCell_other _ _ _ _ (by simp), h.c1]
    rfl
  · rw [World.frozen?_setCell, World.frozen?_setCell]; exact h.f0
  · rw [World.frozen?_setCell, World.frozen?_setCell]; exact h.f1
theorem Box2.other {w : World} {b : Nat} {x0 x1 : Int} (h : Box2 w b x0 x1) {a : Addr} (ha : a.block ≠ b) (u : Value) : Box2 (w.setCell a u) b x0 x1 :=
  ⟨(World.cell?_setCell_other _ _ _ _ (fun e => ha (by rw [e]))).trans h.c0, (World.cell?_setCell_other _ _ _ _ (fun e => ha (by rw [e]))).trans h.c1, by rw [World.frozen?_setCell]; exact h.f0, by rw [World.frozen?_setCell]; exact h.f1, by simpa using h.lt⟩

def SpanBox (w wx : World) (x : Value) (a : Int) : Prop := ∃ g, x = .pointer (some ⟨g, 0, none⟩) ∧ w.heap.size ≤ g ∧ Box2 wx g a a ∧ Below w.heap.size w wx

set_option maxRecDepth 100000 in
set_option maxHeartbeats 6400000 in
theorem Span_any (n : Int) (s : Strat) (u : Value) (k : Nat) (w : World) (hu : NumsAt .i64 w u s.seen) (hn1 : 1 ≤ n) (hn5 : n ≤ 5) (hs : stratB n s = true) (h4 : s.hi - sumL s.seen ≤ 4) (hk : k < s.seen.length) :
    Calls Try.prog 45 #[.agg #[.int .i64 s.coins, .int .i64 s.lo, .int .i64 s.hi, u], .int .i64 k] w (Gives w (.agg #[.int .i64 (rangeAt s k).1, .int .i64 (rangeAt s k).2])) := by
  obtain ⟨A, c, rfl, hc, hcm⟩ := hu.form
  obtain ⟨k1, k2, k3, k4⟩ := strat_nums hs
  obtain ⟨hne, hsp⟩ := span_range hs hn1 hk
  have htl := truths_len hs h4
  have hsn := (stratB_iff.1 hs).2.2.2.2.1
  have hs5 : s.seen.length ≤ 5 := by omega
  have hpow : 5 ^ s.seen.length ≤ 3125 := by
    have h := Nat.pow_le_pow_right (show 0 < 5 by omega) hs5
    simpa using h
  have hall : ∀ l ∈ truthsL s, l.length = s.seen.length ∧ SumOk l ∧ 0 ≤ sumL l ∧ (∀ x ∈ l, 0 ≤ x ∧ x ≤ 400) := fun l hl => by
    have hp := (mem_truths hs l).1 hl
    exact ⟨hp.len, sumOk_of (by have := hp.len; omega) (fun x hx => by have := hp.val x hx; omega), sumL_nonneg fun x hx => (hp.val x hx).1, hp.val⟩
  have hG : ∀ (l : List Int), l ∈ truthsL s → ∀ (W : World) (y v : Value), NumsAt .i64 W v l → Calls Try.prog 25 #[.agg #[.int .i64 s.coins, .int .i64 s.lo, .int .i64 s.hi, y], v, .int .i64 k] W (Gives W (.int .i64 (getsT s l k))) := fun l hl W y v hv => by
    obtain ⟨q1, q2, q3, q4⟩ := hall l hl
    have hel : 0 ≤ l[k]?.getD 0 ∧ l[k]?.getD 0 ≤ 400 := by
      cases e : l[k]? with
      | none => simp
      | some z => exact q4 z (List.mem_of_getElem? e)
    exact Gets_any s y v l k W hv (by omega) q2 q3 k1.1 k1.2 hel.1 (by omega)
  have HG := Lib.hid hG
  have hgb : ∀ l ∈ truthsL s, 0 ≤ getsT s l k ∧ getsT s l k ≤ 10000000000000 := fun l hl => by
    have h1 := range_in hs ((mem_truths hs l).1 hl) hk
    have h2 := rangeAt_bd hs k
    unfold getsT
    omega
  have Hgb := Lib.hid hgb
  have Hsp := Lib.hid hsp
  have Hs := Lib.hid hs
  clear hG hall hgb hsp hs k4 hsn
  have hpos : 0 < (truthsL s).length := List.length_pos_iff.2 hne
  clear hne
  go_enter Try.func45, Try.ntmps45
  have hb0 : Below w.heap.size w ((w.alloc (.cells #[.int .i64 s.coins, .int .i64 s.lo, .int .i64 s.hi, .slice A s.seen.length c] 44)).alloc (.cells #[.int .i64 0, .int .i64 0] 42)) := ((Below.refl _ _).alloc (Nat.le_refl _) _).alloc (by simp) _
  have p0 : ((w.alloc (.cells #[.int .i64 s.coins, .int .i64 s.lo, .int .i64 s.hi, .slice A s.seen.length c] 44)).alloc (.cells #[.int .i64 0, .int .i64 0] 42)).cell? ⟨w.heap.size, 0, none⟩ = some (.int .i64 s.coins) := by simp [go_sem]
  have p1 : ((w.alloc (.cells #[.int .i64 s.coins, .int .i64 s.lo, .int .i64 s.hi, .slice A s.seen.length c] 44)).alloc (.cells #[.int .i64 0, .int .i64 0] 42)).cell? ⟨w.heap.size, 1, none⟩ = some (.int .i64 s.lo) := by simp [go_sem]
  have p2 : ((w.alloc (.cells #[.int .i64 s.coins, .int .i64 s.lo, .int .i64 s.hi, .slice A s.seen.length c] 44)).alloc (.cells #[.int .i64 0, .int .i64 0] 42)).cell? ⟨w.heap.size, 2, none⟩ = some (.int .i64 s.hi) := by simp [go_sem]
  have p3 : ((w.alloc (.cells #[.int .i64 s.coins, .int .i64 s.lo, .int .i64 s.hi, .slice A s.seen.length c] 44)).alloc (.cells #[.int .i64 0, .int .i64 0] 42)).cell? ⟨w.heap.size, 3, none⟩ = some (.slice A s.seen.length c) := by simp [go_sem]
  have R0 : Box2 ((w.alloc (.cells #[.int .i64 s.coins, .int .i64 s.lo, .int .i64 s.hi, .slice A s.seen.length c] 44)).alloc (.cells #[.int .i64 0, .int .i64 0] 42)) (w.heap.size + 1) 0 0 := by
    have := Box2.new (w.alloc (.cells #[.int .i64 s.coins, .int .i64 s.lo, .int .i64 s.hi, .slice A s.seen.length c] 44)) 0 0 42
    simpa using this
  go_wp2_with fail
  refine (Truths_any n s _ _ (hu.below hb0) hn5 Hs.out h4).mono ?_
  rintro e w1 ⟨A2, c2, us2, rfl, o2w, q2w, hb1⟩
  have hw1 := hb0.trans (hb1.mono hb0.size)
  replace p0 := cell_below hb1 p0
  replace p1 := cell_below hb1 p1
  replace p2 := cell_below hb1 p2
  replace p3 := cell_below hb1 p3
  replace R0 := R0.below hb1
  have r1 := rows_of_own o2w q2w
  obtain ⟨TL, hTL⟩ : ∃ TL, truthsL s = TL := ⟨_, rfl⟩
  have hspI : spanI s k = minmax ((TL.map fun l => getsT s l k).drop 1) (getsT s (TL[0]?.getD []) k, getsT s (TL[0]?.getD []) k) := by unfold spanI; rw [hTL]
  rw [hspI] at Hsp
  rw [hTL] at r1 htl hpos HG Hgb ⊢
  clear hTL hspI o2w q2w
  obtain ⟨b2, o2, l0, x0v, rfl, hl0, dl0, hx0n, hbx0⟩ := r1.at_ (k := 0) hpos
  rw [Nat.add_zero] at dl0
  obtain ⟨D, F, rfl, hD, hD'⟩ := hx0n.form
  have hm0 : l0 ∈ TL := List.mem_of_getElem? hl0
  have hgb0 := Hgb.out l0 hm0
  obtain ⟨G0, hG0⟩ : ∃ G0, getsT s l0 k = G0 := ⟨_, rfl⟩
  have hc0 : ∀ (W : World) (y v : Value), NumsAt .i64 W v l0 → Calls Try.prog 25 #[.agg #[.int .i64 s.coins, .int .i64 s.lo, .int .i64 s.hi, y], v, .int .i64 k] W (Gives W (.int .i64 G0)) := fun W y v h => by rw [← hG0]; exact HG.out l0 hm0 W y v h
  rw [hG0] at hgb0
  have Hl0 := Lib.hid hl0
  have HG0 := Lib.hid hG0
  have hTI : (0 : Int) < (TL.length : Int) := by omega
  clear hl0 hG0
  go_upto_region 2 with fail
  go_cut [6] from 11 to 23 (fun x wx => SpanBox w1 wx x G0)
  case first =>
    have d0 : Below w1.heap.size w1 w1.drew := (Below.refl _ _).drew
    have S0 := And.intro (cell_below d0 p0) (And.intro (cell_below d0 p1) (And.intro (cell_below d0 p2) (And.intro (cell_below d0 p3) (cell_below d0 dl0))))
    refine wp_region_noPanic ?_
    refine wp_region_pickA [0, 1, 2, 3, 4, 6, 7, 8, 9, 10] 5 (fun _ => true) (fun w' => w'.cell? ⟨w.heap.size, 0, none⟩ = some (.int .i64 s.coins) ∧ w'.cell? ⟨w.heap.size, 1, none⟩ = some (.int .i64 s.lo) ∧ w'.cell? ⟨w.heap.size, 2, none⟩ = some (.int .i64 s.hi) ∧ w'.cell? ⟨w.heap.size, 3, none⟩ = some (.slice A s.seen.length c) ∧ w'.cell? ⟨b2, o2, none⟩ = some (.slice D l0.length F)) (by kernel_rfl) (by kernel_rfl) (fun _ _ _ _ _ h => h) S0 (fun hne => ?_)
    have m0 := fun q : Meets (fun w' => w'.cell? ⟨w.heap.size, 0, none⟩ = some (.int .i64 s.coins) ∧ w'.cell? ⟨w.heap.size, 1, none⟩ = some (.int .i64 s.lo) ∧ w'.cell? ⟨w.heap.size, 2, none⟩ = some (.int .i64 s.hi) ∧ w'.cell? ⟨w.heap.size, 3, none⟩ = some (.slice A s.seen.length c) ∧ w'.cell? ⟨b2, o2, none⟩ = some (.slice D l0.length F)) => q.property
    have x0 := fun q => (m0 q).1
    have x1 := fun q => (m0 q).2.1
    have x2 := fun q => (m0 q).2.2.1
    have x3 := fun q => (m0 q).2.2.2.1
    have x4 := fun q => (m0 q).2.2.2.2
    clear m0
    simp only [pick, pickN, List.filterMap_cons, List.filterMap_nil, List.getElem?_cons_zero, List.getElem?_cons_succ, Option.map_some]
    repeat (change wpQuiet _ _ _ _ (_ :: _) _; go_big_quiet_step (fail))
    refine wpQuiet_nil ?_
    clear x0 x1 x2 x3 x4 hne
    generalize w1.drew = wd at *
    have n0 := hx0n.below d0
    refine wpAnyF_two (i := 5) (j := 13) (by kernel_rfl) rfl rfl (fun K hK => ?_) (fun K hK => ?_)
    · go_simp
      refine (hc0 _ _ _ n0).mono ?_
      rintro e v2 ⟨rfl, he2⟩
      have hB2 := d0.trans (he2.mono d0.size)
      have S2 := And.intro (cell_below he2 S0.1) (And.intro (cell_below he2 S0.2.1) (And.intro (cell_below he2 S0.2.2.1) (And.intro (cell_below he2 S0.2.2.2.1) (cell_below he2 S0.2.2.2.2))))
      have n2 := n0.below he2
      refine hK.out _ _ (fun _ => S2) ?_
      clear hK K
      refine wpAnyF_two (i := 11) (j := 13) (by kernel_rfl) rfl rfl (fun K hK => ?_) (fun K hK => ?_)
      · go_simp
        refine (hc0 _ _ _ n2).mono ?_
        rintro e v3 ⟨rfl, he3⟩
        have hB3 := hB2.trans (he3.mono hB2.size)
        have S3 := And.intro (cell_below he3 S2.1) (And.intro (cell_below he3 S2.2.1) (And.intro (cell_below he3 S2.2.2.1) (And.intro (cell_below he3 S2.2.2.2.1) (cell_below he3 S2.2.2.2.2))))
        have n3 := n2.below he3
        refine hK.out _ _ (fun _ => S3) ?_
        clear hK K
        refine wpAnyF_two (i := 12) (j := 13) (by kernel_rfl) rfl rfl (fun K hK => ?_) (fun K hK => ?_)
        · go_simp
          refine hK.out _ _ (fun _ => S3) ?_
          clear hK K
          refine wpAnyF_one (i := 13) (by kernel_rfl) rfl (fun K hK => ?_)
          go_simp
          have he4 : Below v3.heap.size v3 (v3.alloc (.cells #[.int .i64 0, .int .i64 0] 42)) := (Below.refl _ _).alloc (Nat.le_refl _) _
          have hB4 := hB3.trans (he4.mono hB3.size)
          have S4 := And.intro (cell_below he4 S3.1) (And.intro (cell_below he4 S3.2.1) (And.intro (cell_below he4 S3.2.2.1) (And.intro (cell_below he4 S3.2.2.2.1) (cell_below he4 S3.2.2.2.2))))
          have n4 := n3.below he4
          have bx4 := Box2.new v3 0 0 42
          refine hK.out _ _ (fun _ => S4) ?_
          clear hK K
          have hg4 : w1.heap.size ≤ v3.heap.size := hB3.size
          generalize (v3.alloc (.cells #[.int .i64 0, .int .i64 0] 42)) = v4 at *
          refine wpAnyF_one (i := 14) (by kernel_rfl) rfl (fun K hK => ?_)
          have z0 := bx4.c0
          have z1 := bx4.c1
          have z2 := bx4.f0
          have z3 := bx4.f1
          go_simp
          have far : ∀ (q : Addr) (y : Value), q.block < v3.heap.size → v4.cell? q = some y → ((v4.setCell ⟨v3.heap.size, 0, none⟩ (.int .i64 G0)).setCell ⟨v3.heap.size, 1, none⟩ (.int .i64 G0)).cell? q = some y := fun q y hq hy => by
            rw [World.cell?_setCell_other _ _ _ _ (fun e => by have := congrArg Addr.block e; simp only at this; omega), World.cell?_setCell_other _ _ _ _ (fun e => by have := congrArg Addr.block e; simp only at this; omega)]
            exact hy
          have hgg : w1.heap.size ≤ v3.heap.size := hg4
          have hlt0 : w.heap.size < w1.heap.size := by have := World.block_lt_of_cell? w1 _ p0; simpa using this
          refine hK.out _ _ (fun _ => ⟨far _ _ (by simp only; omega) S4.1, far _ _ (by simp only; omega) S4.2.1, far _ _ (by simp only; omega) S4.2.2.1, far _ _ (by simp only; omega) S4.2.2.2.1, far _ _ (by simp only; omega) S4.2.2.2.2⟩) ?_
          clear hK K z0 z1 z2 z3 far
          refine wpAnyF_done (by kernel_rfl) ?_ _
          refine NoPanic.normal ?_
          go_wp2_with fail
          go_meet
          case rel => exact ⟨v3.heap.size, rfl, hgg, bx4.set G0 G0, (hB4.setCell (p := ⟨v3.heap.size, 0, none⟩) hgg _).setCell (p := ⟨v3.heap.size, 1, none⟩) hgg _⟩
        · go_simp
          have he4 : Below v3.heap.size v3 (v3.alloc (.cells #[.int .i64 0, .int .i64 0] 42)) := (Below.refl _ _).alloc (Nat.le_refl _) _
          have hB4 := hB3.trans (he4.mono hB3.size)
          have S4 := And.intro (cell_below he4 S3.1) (And.intro (cell_below he4 S3.2.1) (And.intro (cell_below he4 S3.2.2.1) (And.intro (cell_below he4 S3.2.2.2.1) (cell_below he4 S3.2.2.2.2))))
          have n4 := n3.below he4
          have bx4 := Box2.new v3 0 0 42
          refine hK.out _ _ (fun _ => S4) ?_
          clear hK K
          have hg4 : w1.heap.size ≤ v3.heap.size := hB3.size
          generalize (v3.alloc (.cells #[.int .i64 0, .int .i64 0] 42)) = v4 at *
          refine wpAnyF_one (i := 12) (by kernel_rfl) rfl (fun K hK => ?_)
          go_simp
          refine hK.out _ _ (fun _ => S4) ?_
          clear hK K
          refine wpAnyF_one (i := 14) (by kernel_rfl) rfl (fun K hK => ?_)
          have z0 := bx4.c0
          have z1 := bx4.c1
          have z2 := bx4.f0
          have z3 := bx4.f1
          go_simp
          have far : ∀ (q : Addr) (y : Value), q.block < v3.heap.size → v4.cell? q = some y → ((v4.setCell ⟨v3.heap.size, 0, none⟩ (.int .i64 G0)).setCell ⟨v3.heap.size, 1, none⟩ (.int .i64 G0)).cell? q = some y := fun q y hq hy => by
            rw [World.cell?_setCell_other _ _ _ _ (fun e => by have := congrArg Addr.block e; simp only at this; omega), World.cell?_setCell_other _ _ _ _ (fun e => by have := congrArg Addr.block e; simp only at this; omega)]
            exact hy
          have hgg : w1.heap.size ≤ v3.heap.size := hg4
          have hlt0 : w.heap.size < w1.heap.size := by have := World.block_lt_of_cell? w1 _ p0; simpa using this
          refine hK.out _ _ (fun _ => ⟨far _ _ (by simp only; omega) S4.1, far _ _ (by simp only; omega) S4.2.1, far _ _ (by simp only; omega) S4.2.2.1, far _ _ (by simp only; omega) S4.2.2.2.1, far _ _ (by simp only; omega) S4.2.2.2.2⟩) ?_
          clear hK K z0 z1 z2 z3 far
          refine wpAnyF_done (by kernel_rfl) ?_ _
          refine NoPanic.normal ?_
          go_wp2_with fail
          go_meet
          case rel => exact ⟨v3.heap.size, rfl, hgg, bx4.set G0 G0, (hB4.setCell (p := ⟨v3.heap.size, 0, none⟩) hgg _).setCell (p := ⟨v3.heap.size, 1, none⟩) hgg _⟩
      · go_simp
        have he3 : Below v2.heap.size v2 (v2.alloc (.cells #[.int .i64 0, .int .i64 0] 42)) := (Below.refl _ _).alloc (Nat.le_refl _) _
        have hB3 := hB2.trans (he3.mono hB2.size)
        have S3 := And.intro (cell_below he3 S2.1) (And.intro (cell_below he3 S2.2.1) (And.intro (cell_below he3 S2.2.2.1) (And.intro (cell_below he3 S2.2.2.2.1) (cell_below he3 S2.2.2.2.2))))
        have n3 := n2.below he3
        have bx3 := Box2.new v2 0 0 42
        refine hK.out _ _ (fun _ => S3) ?_
        clear hK K
        have hg3 : w1.heap.size ≤ v2.heap.size := hB2.size
        generalize (v2.alloc (.cells #[.int .i64 0, .int .i64 0] 42)) = v3 at *
        refine wpAnyF_one (i := 11) (by kernel_rfl) rfl (fun K hK => ?_)
        go_simp
        refine (hc0 _ _ _ n3).mono ?_
        rintro e v4 ⟨rfl, he4⟩
        have hB4 := hB3.trans (he4.mono hB3.size)
        have S4 := And.intro (cell_below he4 S3.1) (And.intro (cell_below he4 S3.2.1) (And.intro (cell_below he4 S3.2.2.1) (And.intro (cell_below he4 S3.2.2.2.1) (cell_below he4 S3.2.2.2.2))))
        have n4 := n3.below he4
        have bx4 := bx3.below he4
        refine hK.out _ _ (fun _ => S4) ?_
        clear hK K
        refine wpAnyF_one (i := 12) (by kernel_rfl) rfl (fun K hK => ?_)
        go_simp
        refine hK.out _ _ (fun _ => S4) ?_
        clear hK K
        refine wpAnyF_one (i := 14) (by kernel_rfl) rfl (fun K hK => ?_)
        have z0 := bx4.c0
        have z1 := bx4.c1
        have z2 := bx4.f0
        have z3 := bx4.f1
        go_simp
        have far : ∀ (q : Addr) (y : Value), q.block < v2.heap.size → v4.cell? q = some y → ((v4.setCell ⟨v2.heap.size, 0, none⟩ (.int .i64 G0)).setCell ⟨v2.heap.size, 1, none⟩ (.int .i64 G0)).cell? q = some y := fun q y hq hy => by
          rw [World.cell?_setCell_other _ _ _ _ (fun e => by have := congrArg Addr.block e; simp only at this; omega), World.cell?_setCell_other _ _ _ _ (fun e => by have := congrArg Addr.block e; simp only at this; omega)]
          exact hy
        have hgg : w1.heap.size ≤ v2.heap.size := hg3
        have hlt0 : w.heap.size < w1.heap.size := by have := World.block_lt_of_cell? w1 _ p0; simpa using this
        refine hK.out _ _ (fun _ => ⟨far _ _ (by simp only; omega) S4.1, far _ _ (by simp only; omega) S4.2.1, far _ _ (by simp only; omega) S4.2.2.1, far _ _ (by simp only; omega) S4.2.2.2.1, far _ _ (by simp only; omega) S4.2.2.2.2⟩) ?_
        clear hK K z0 z1 z2 z3 far
        refine wpAnyF_done (by kernel_rfl) ?_ _
        refine NoPanic.normal ?_
        go_wp2_with fail
        go_meet
        case rel => exact ⟨v2.heap.size, rfl, hgg, bx4.set G0 G0, (hB4.setCell (p := ⟨v2.heap.size, 0, none⟩) hgg _).setCell (p := ⟨v2.heap.size, 1, none⟩) hgg _⟩
    · go_simp
      have he2 : Below wd.heap.size wd (wd.alloc (.cells #[.int .i64 0, .int .i64 0] 42)) := (Below.refl _ _).alloc (Nat.le_refl _) _
      have hB2 := d0.trans (he2.mono d0.size)
      have S2 := And.intro (cell_below he2 S0.1) (And.intro (cell_below he2 S0.2.1) (And.intro (cell_below he2 S0.2.2.1) (And.intro (cell_below he2 S0.2.2.2.1) (cell_below he2 S0.2.2.2.2))))
      have n2 := n0.below he2
      have bx2 := Box2.new wd 0 0 42
      refine hK.out _ _ (fun _ => S2) ?_
      clear hK K
      have hg2 : w1.heap.size ≤ wd.heap.size := d0.size
      generalize (wd.alloc (.cells #[.int .i64 0, .int .i64 0] 42)) = v2 at *
      refine wpAnyF_one (i := 5) (by kernel_rfl) rfl (fun K hK => ?_)
      go_simp
      refine (hc0 _ _ _ n2).mono ?_
      rintro e v3 ⟨rfl, he3⟩
      have hB3 := hB2.trans (he3.mono hB2.size)
      have S3 := And.intro (cell_below he3 S2.1) (And.intro (cell_below he3 S2.2.1) (And.intro (cell_below he3 S2.2.2.1) (And.intro (cell_below he3 S2.2.2.2.1) (cell_below he3 S2.2.2.2.2))))
      have n3 := n2.below he3
      have bx3 := bx2.below he3
      refine hK.out _ _ (fun _ => S3) ?_
      clear hK K
      refine wpAnyF_one (i := 11) (by kernel_rfl) rfl (fun K hK => ?_)
      go_simp
      refine (hc0 _ _ _ n3).mono ?_
      rintro e v4 ⟨rfl, he4⟩
      have hB4 := hB3.trans (he4.mono hB3.size)
      have S4 := And.intro (cell_below he4 S3.1) (And.intro (cell_below he4 S3.2.1) (And.intro (cell_below he4 S3.2.2.1) (And.intro (cell_below he4 S3.2.2.2.1) (cell_below he4 S3.2.2.2.2))))
      have n4 := n3.below he4
      have bx4 := bx3.below he4
      refine hK.out _ _ (fun _ => S4) ?_
      clear hK K
      refine wpAnyF_one (i := 12) (by kernel_rfl) rfl (fun K hK => ?_)
      go_simp
      refine hK.out _ _ (fun _ => S4) ?_
      clear hK K
      refine wpAnyF_one (i := 14) (by kernel_rfl) rfl (fun K hK => ?_)
      have z0 := bx4.c0
      have z1 := bx4.c1
      have z2 := bx4.f0
      have z3 := bx4.f1
      go_simp
      have far : ∀ (q : Addr) (y : Value), q.block < wd.heap.size → v4.cell? q = some y → ((v4.setCell ⟨wd.heap.size, 0, none⟩ (.int .i64 G0)).setCell ⟨wd.heap.size, 1, none⟩ (.int .i64 G0)).cell? q = some y := fun q y hq hy => by
        rw [World.cell?_setCell_other _ _ _ _ (fun e => by have := congrArg Addr.block e; simp only at this; omega), World.cell?_setCell_other _ _ _ _ (fun e => by have := congrArg Addr.block e; simp only at this; omega)]
        exact hy
      have hgg : w1.heap.size ≤ wd.heap.size := hg2
      have hlt0 : w.heap.size < w1.heap.size := by have := World.block_lt_of_cell? w1 _ p0; simpa using this
      refine hK.out _ _ (fun _ => ⟨far _ _ (by simp only; omega) S4.1, far _ _ (by simp only; omega) S4.2.1, far _ _ (by simp only; omega) S4.2.2.1, far _ _ (by simp only; omega) S4.2.2.2.1, far _ _ (by simp only; omega) S4.2.2.2.2⟩) ?_
      clear hK K z0 z1 z2 z3 far
      refine wpAnyF_done (by kernel_rfl) ?_ _
      refine NoPanic.normal ?_
      go_wp2_with fail
      go_meet
      case rel => exact ⟨wd.heap.size, rfl, hgg, bx4.set G0 G0, (hB4.setCell (p := ⟨wd.heap.size, 0, none⟩) hgg _).setCell (p := ⟨wd.heap.size, 1, none⟩) hgg _⟩
  case rest =>
    obtain ⟨g, rfl, hg, RB, hbc⟩ := hcut
    rename World => w2
    have hw2 := hw1.trans (hbc.mono hw1.size)
    have hlt0 : w.heap.size < w1.heap.size := by have := World.block_lt_of_cell? w1 _ p0; simpa using this
    have hR0 := R0.lt
    obtain ⟨mm, hmm⟩ : ∃ mm : Nat → Int × Int, ∀ i, minmax (((TL.map fun l => getsT s l k).take i).drop 1) (G0, G0) = mm i := ⟨_, fun _ => rfl⟩
    have hm1 : mm 1 = (G0, G0) := by
      rw [← hmm]
      cases TL with
      | nil => simp at hpos
      | cons a b => simp [minmax]
    have hmS : ∀ (i : Nat) (l : List Int), 1 ≤ i → TL[i]? = some l → mm (i + 1) = (min (mm i).1 (getsT s l k), max (mm i).2 (getsT s l k)) := fun i l hi hl => by
      rw [← hmm, ← hmm, List.take_add_one, List.getElem?_map, hl, List.drop_append_of_le_length, Option.map_some, Option.toList_some, minmax_snoc]
      have := (List.getElem?_eq_some_iff.1 hl).1
      simp
      omega
    have hmB : ∀ i, (0 ≤ (mm i).1 ∧ (mm i).1 ≤ 10000000000000) ∧ (0 ≤ (mm i).2 ∧ (mm i).2 ≤ 10000000000000) := fun i => by
      rw [← hmm]
      have h1 := minmax_bd (((TL.map fun l => getsT s l k).take i).drop 1) (G0, G0)
      have h2 := minmax_in (((TL.map fun l => getsT s l k).take i).drop 1) (G0, G0) 0 10000000000000 hgb0.1 hgb0.2 (fun x hx => by
        have hx := List.mem_of_mem_take (List.mem_of_mem_drop hx)
        obtain ⟨l, hl, rfl⟩ := List.mem_map.1 hx
        exact Hgb.out l hl)
      have h3 := h1.1
      have h4 := h1.2.1
      simp only at h3 h4
      omega
    have hmE : mm TL.length = rangeAt s k := by
      rw [← hmm, List.take_of_length_le (by simp), ← Hsp.out]
      rw [Hl0.out, Option.getD_some, HG0.out]
    have HmS := Lib.hid hmS
    have HmB := Lib.hid hmB
    have HmE := Lib.hid hmE
    have RB1 : Box2 w2 g (mm 1).1 (mm 1).2 := by rw [hm1]; exact RB
    clear hmm hm1 hmS hmB hmE RB hc0 hx0n
    go_wp2_with fail
    go_loopw [7, 8] (fun x y wr => ∃ i : Nat, 1 ≤ i ∧ i ≤ TL.length ∧ x = .int .i64 i ∧ Below w1.heap.size w1 wr ∧ Box2 wr g (mm i).1 (mm i).2) (fun x y wr => TL.length - (intOf x).toNat)
    case atStart => exact ⟨1, by omega, by omega, rfl, hbc, RB1⟩
    case round =>
      obtain ⟨i, hi1, hi2, rfl, hbr, BR⟩ := hrel
      obtain ⟨wo, rfl⟩ : ∃ wo : World, wo = wr := ⟨_, rfl⟩
      have q0 := cell_below hbr p0
      have q1 := cell_below hbr p1
      have q2 := cell_below hbr p2
      have q3 := cell_below hbr p3
      have hbd := HmB.out i
      by_cases hlt : i < TL.length
      · have hltI : (i : Int) < (TL.length : Int) := by omega
        obtain ⟨b3, o3, l, xv, e3, hl, dl, hxn, hbx⟩ := r1.at_ hlt
        cases e3
        have hml : l ∈ TL := List.mem_of_getElem? hl
        have hgi := Hgb.out l hml
        have hst := HmS.out i l hi1 hl
        obtain ⟨Gi, hGi⟩ : ∃ Gi, getsT s l k = Gi := ⟨_, rfl⟩
        have hci : ∀ (W : World) (y v : Value), NumsAt .i64 W v l → Calls Try.prog 25 #[.agg #[.int .i64 s.coins, .int .i64 s.lo, .int .i64 s.hi, y], v, .int .i64 k] W (Gives W (.int .i64 Gi)) := fun W y v h => by rw [← hGi]; exact HG.out l hml W y v h
        rw [hGi] at hgi hst
        have Hst := Lib.hid hst
        clear hl hml hGi hst
        replace dl := cell_below hbr dl
        replace hxn := hxn.below hbr
        obtain ⟨E, J, rfl, hE, hE'⟩ := hxn.form
        have x0 := Later.cell q0
        have x1 := Later.cell q1
        have x2 := Later.cell q2
        have x3 := Later.cell q3
        have x4 := Later.cell dl
        go_wp2_with fail
        refine wp_region_later (by kernel_rfl) (by kernel_rfl) ?_
        repeat (go_big_quiet_step ((go_at_call 25; exact Later.call (hci _ _ _ (hxn.below (Subtype.property _))))))
        refine wpQuiet_nil ?_
        intro w3 hx3
        have hb3 := Later.out hx3
        clear hx3 x0 x1 x2 x3 x4 hci dl hxn q0 q1 q2 q3
        have BR3 := BR.below hb3
        obtain ⟨m1, hm1⟩ : ∃ x, (mm i).1 = x := ⟨_, rfl⟩
        obtain ⟨m2, hm2⟩ : ∃ x, (mm i).2 = x := ⟨_, rfl⟩
        rw [hm1, hm2] at BR3 hbd Hst
        clear hm1 hm2 BR
        have z0 := BR3.c0
        have z1 := BR3.c1
        have z2 := BR3.f0
        have z3 := BR3.f1
        have hb13 := hbr.trans (hb3.mono hbr.size)
        by_cases c1 : m1 ≤ Gi
        · by_cases c2 : Gi ≤ m2
          · go_wp2
            all_goals
              go_roundw
              case rel =>
                refine ⟨i + 1, by omega, by omega, by go_num, (hb13.setCell (p := ⟨g, 0, none⟩) hg _).setCell (p := ⟨g, 1, none⟩) hg _, ?_⟩
                rw [Hst.out]
                have e1 : min m1 Gi = m1 := by omega
                have e2 : max m2 Gi = m2 := by omega
                simp only [e1, e2]
                exact BR3.set _ _
              case measure => simp [intOf]; omega
          · go_wp2
            all_goals
              go_roundw
              case rel =>
                refine ⟨i + 1, by omega, by omega, by go_num, (hb13.setCell (p := ⟨g, 0, none⟩) hg _).setCell (p := ⟨g, 1, none⟩) hg _, ?_⟩
                rw [Hst.out]
                have e1 : min m1 Gi = m1 := by omega
                have e2 : max m2 Gi = Gi := by omega
                simp only [e1, e2]
                exact BR3.set _ _
              case measure => simp [intOf]; omega
        · by_cases c2 : Gi ≤ m2
          · go_wp2
            all_goals
              go_roundw
              case rel =>
                refine ⟨i + 1, by omega, by omega, by go_num, (hb13.setCell (p := ⟨g, 0, none⟩) hg _).setCell (p := ⟨g, 1, none⟩) hg _, ?_⟩
                rw [Hst.out]
                have e1 : min m1 Gi = Gi := by omega
                have e2 : max m2 Gi = m2 := by omega
                simp only [e1, e2]
                exact BR3.set _ _
              case measure => simp [intOf]; omega
          · go_wp2
            all_goals
              go_roundw
              case rel =>
                refine ⟨i + 1, by omega, by omega, by go_num, (hb13.setCell (p := ⟨g, 0, none⟩) hg _).setCell (p := ⟨g, 1, none⟩) hg _, ?_⟩
                rw [Hst.out]
                have e1 : min m1 Gi = Gi := by omega
                have e2 : max m2 Gi = Gi := by omega
                simp only [e1, e2]
                exact BR3.set _ _
              case measure => simp [intOf]; omega
      · obtain rfl : i = TL.length := by omega
        have BE := BR
        rw [HmE.out] at BE
        have RE := R0.below hbr
        have z0 := BE.c0
        have z1 := BE.c1
        have z4 := RE.c0
        have z5 := RE.c1
        have z6 := RE.f0
        have z7 := RE.f1
        go_wp2
        have RF := RE.set (rangeAt s k).1 (rangeAt s k).2
        refine bodyPost_ret (v := .agg #[.int .i64 (rangeAt s k).1, .int .i64 (rangeAt s k).2]) (by simp [results, Try.results45, go_sem, RF.c0, RF.c1]) rfl ⟨rfl, ?_⟩
        exact ((hw1.trans (hbr.mono hw1.size)).setCell (p := ⟨w.heap.size + 1, 0, none⟩) (by simp only; omega) _).setCell (p := ⟨w.heap.size + 1, 1, none⟩) (by simp only; omega) _
end Go.Proofs.Ytobeffjdfhkjeaa
