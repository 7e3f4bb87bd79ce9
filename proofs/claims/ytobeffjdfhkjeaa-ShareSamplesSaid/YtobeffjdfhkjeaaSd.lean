import Derived.Test.YtobeffjdfhkjeaaNa
import Derived.Test.YtobeffjdfhkjeaaOa
import Derived.Test.YtobeffjdfhkjeaaTr
import Derived.Test.YtobeffjdfhkjeaaW4
set_option linter.unusedVariables false
set_option linter.unusedSimpArgs false
namespace Go.Proofs.Ytobeffjdfhkjeaa
open Go Go.Proofs Go.RowKit

/-! ### More that are seen, with companies by words -/
def spreadC (n : Nat) (ws : List Int) (i k : Nat) : Nat := (wordI ws (i + k) % (n : Int)).toNat
def spreadRow (n : Nat) (ws : List Int) (i : Nat) : Nat → List Int
  | 0 => List.replicate n 0
  | k + 1 => (spreadRow n ws i k).set (spreadC n ws i k) ((spreadRow n ws i k)[spreadC n ws i k]?.getD 0 + 1)
theorem spreadC_lt {n : Nat} (h : 0 < n) {ws : List Int} (i k : Nat) : spreadC n ws i k < n := by
  unfold spreadC
  have h1 := Int.emod_lt_of_pos (wordI ws (i + k)) (by omega : (0 : Int) < n)
  have h2 := Int.emod_nonneg (wordI ws (i + k)) (by omega : (n : Int) ≠ 0)
  omega
theorem spreadRow_len (n : Nat) (ws : List Int) (i : Nat) : ∀ k, (spreadRow n ws i k).length = n
  | 0 => by simp [spreadRow]
  | k + 1 => by simp [spreadRow, spreadRow_len n ws i k]
theorem spreadRow_sum {n : Nat} (h : 0 < n) (ws : List Int) (i : Nat) : ∀ k, sumL (spreadRow n ws i k) = k
  | 0 => by
    have : ∀ m : Nat, sumL (List.replicate m 0) = 0 := by
      intro m
      induction m with
      | zero => rfl
      | succ m ih => simp [List.replicate_succ, sumL, ih]
    simp [spreadRow, this]
  | k + 1 => by
    simp only [spreadRow]
    rw [sumL_set (by rw [spreadRow_len]; exact spreadC_lt h i k), spreadRow_sum h ws i k]
    push_cast
    omega
theorem spreadRow_pos (n : Nat) (ws : List Int) (i : Nat) : ∀ k, ∀ z ∈ spreadRow n ws i k, 0 ≤ z
  | 0, z, hz => by
    simp only [spreadRow, List.mem_replicate] at hz
    omega
  | k + 1, z, hz => by
    simp only [spreadRow] at hz
    rcases List.mem_or_eq_of_mem_set hz with h | rfl
    · exact spreadRow_pos n ws i k z h
    · cases e : (spreadRow n ws i k)[spreadC n ws i k]? with
      | none => simp
      | some y =>
        have := spreadRow_pos n ws i k y (List.mem_of_getElem? e)
        simp only [Option.getD_some]
        omega
theorem spread_more {n : Nat} (h : 0 < n) {s : Strat} (hs : s.seen.length = n) (ws : List Int) (i k : Nat) : More s k (spreadRow n ws i k) :=
  ⟨by rw [spreadRow_len, hs], spreadRow_pos n ws i k, spreadRow_sum h ws i k⟩
theorem spreadRow_bd {n : Nat} (h : 0 < n) (ws : List Int) (i k c : Nat) : 0 ≤ (spreadRow n ws i k)[c]?.getD 0 ∧ (spreadRow n ws i k)[c]?.getD 0 ≤ k := by
  have := elem_le_sum (spreadRow_pos n ws i k) c
  rw [spreadRow_sum h] at this
  exact this

def spreadS (n : Nat) (ws ms : List Int) (i : Nat) (s : Strat) : Strat := withS s (spreadRow n ws i (ms[i]?.getD 0).toNat)
def spreadL (n : Nat) (ss : List Strat) (ms ws : List Int) : List Strat := (List.range ss.length).map fun i => spreadS n ws ms i (ss[i]?.getD Strat.none)
theorem spreadL_len (n : Nat) (ss : List Strat) (ms ws : List Int) : (spreadL n ss ms ws).length = ss.length := by simp [spreadL]
theorem spreadL_get {n : Nat} {ss : List Strat} {ms ws : List Int} {i : Nat} {s : Strat} (h : ss[i]? = some s) : (spreadL n ss ms ws)[i]? = some (spreadS n ws ms i s) := by
  have hi := (List.getElem?_eq_some_iff.1 h).1
  unfold spreadL
  rw [List.getElem?_map, List.getElem?_range hi]
  simp [h]


/-- A pool of the reference's, in new memory. -/
def GivesPoolOwn (w : World) (n : Int) (ss : List Strat) (e : Ending) (w' : World) : Prop :=
  ∃ A c us, e = .returned (.agg #[.int .i64 n, .slice A ss.length c]) ∧ w'.ownsRow w.heap.size 44 4 (.slice A ss.length c) ss.length us ∧ StrataOwn w' w.heap.size us ss ∧ Below w.heap.size w w'

set_option maxRecDepth 100000 in
set_option maxHeartbeats 3200000 in
theorem spread_own (m : Nat) (v u uw : Value) (ss : List Strat) (ms ws : List Int) (w : World) (hv : StrataAt w v ss) (hu : NumsAt .i64 w u ms) (hz : NumsAt .u16 w uw ws) (hw : WordsOk ws) (hf : faultI m ss = 0) (hml : ms.length = ss.length)
    (hms : ∀ (j : Nat) (s : Strat), ss[j]? = some s → 0 ≤ ms[j]?.getD 0 ∧ ms[j]?.getD 0 ≤ s.hi - sumL s.seen) :
    Calls Try.prog 48 #[.agg #[.int .i64 m, v], u, uw] w (GivesPoolOwn w m (spreadL m ss ms ws)) := by
  obtain ⟨A, c, rfl, hc, hm⟩ := hv.form
  obtain ⟨Au, cu, rfl, hcu, hmu⟩ := hu.form
  obtain ⟨i0, hi0, hz0, hz1, hz2⟩ := info_parts info44
  obtain ⟨i3, hi3, hx0, hx1, hx2⟩ := info_parts info3
  have hfz := fault_zero hf
  have hs8 := hfz.1
  have hn1 : 1 ≤ m := by have := hfz.2.1; omega
  have hn5 : m ≤ 5 := by have := hfz.2.2.1; omega
  have hmlI : (ms.length : Int) ≤ 8 := by omega
  have Hml := Lib.hid hml
  have Hval := Lib.hid hfz.2.2.2
  have Hms := Lib.hid hms
  have Hw := Lib.hid hw
  clear hfz hf hms hml hw
  go_enter Try.func48, Try.ntmps48
  go_wp2
  go_loopw [8] (fun i wr => ∃ (k : Nat) (A' : Option Addr) (c' : Nat) (us : List Value), k ≤ ss.length ∧ i = .int .i64 k ∧ Below w.heap.size w wr ∧ w.heap.size + 2 < wr.heap.size ∧
      wr.cell? ⟨w.heap.size, 0, none⟩ = some (.int .i64 m) ∧ wr.cell? ⟨w.heap.size, 1, none⟩ = some (.slice A ss.length c) ∧
      wr.cell? ⟨w.heap.size + 1 + 1, 0, none⟩ = some (.int .i64 m) ∧ wr.cell? ⟨w.heap.size + 1 + 1, 1, none⟩ = some (.slice A' k c') ∧ wr.frozen? ⟨w.heap.size + 1 + 1, 1, none⟩ = false ∧
      wr.cell? ⟨w.heap.size + 1, 0, none⟩ = some (.int .i64 0) ∧ wr.cell? ⟨w.heap.size + 1, 1, none⟩ = some (.slice none 0 0) ∧ wr.frozen? ⟨w.heap.size + 1, 0, none⟩ = false ∧ wr.frozen? ⟨w.heap.size + 1, 1, none⟩ = false ∧
      wr.ownsRow (w.heap.size + 3) 44 4 (.slice A' k c') k us ∧ StrataOwn wr (w.heap.size + 3) us ((spreadL m ss ms ws).take k)) (fun i wr => ss.length - (intOf i).toNat)
  case atStart =>
    refine ⟨0, none, 0, [], by omega, rfl, ?_, ?_, ?_, ?_, ?_, ?_, ?_, ?_, ?_, ?_, ?_, World.ownsRow_nil _ _ _ _, ⟨by simp, by intro j l h; simp at h⟩⟩
    · exact ((((Below.refl _ _).alloc (Nat.le_refl _) _).alloc (by simp) _).alloc (by simp; omega) _)
    all_goals simp [go_sem]
  case round =>
    obtain ⟨k, A', c', us, hk, rfl, hb, hsz, f0, f1, g0, g1, gf, r0, r1, rf0, rf1, hown, hso⟩ := hrel
    have Hso := Lib.hid hso
    clear hso
    obtain ⟨wo, rfl⟩ : ∃ wo : World, wo = wr := ⟨_, rfl⟩
    by_cases hlt : k < ss.length
    · obtain ⟨b, o, s, y, rfl, hs, hy, e0, e1, e2, e3, hby⟩ := hv.at_ hlt
      obtain ⟨bu, ou, x, rfl, hx, dx, hbx⟩ := hu.at_ (k := k) (by rw [Hml.out]; exact hlt)
      have hst := Hval.out k s hs
      have hmx := Hms.out k s hs
      rw [hx, Option.getD_some] at hmx
      have Hst := Lib.hid hst
      have Hs := Lib.hid hs
      have Hx := Lib.hid hx
      obtain ⟨hcoin, hhi, hun, hse⟩ := strat_nums hst
      obtain ⟨_, _, hlh, hh4, hsn, _, hsl⟩ := stratB_iff.1 hst
      have Hsn : Hid (s.seen.length = m) := by show _ = _; omega
      obtain ⟨M, rfl⟩ : ∃ M : Nat, x = M := ⟨x.toNat, by omega⟩
      have hsum0 : 0 ≤ sumL s.seen := by
        have := sumL_bound (l := s.seen) (M := 400) (by omega) hse
        exact this.1
      have hM : (M : Int) ≤ 400 := by omega
      have HM : Hid ((M : Int) ≤ s.hi - sumL s.seen) := hmx.2
      clear hs hx hst hsn hse hmx
      have k0 : (0 : Int) ≤ (k : Int) := by omega
      have k1 : (k : Int) < (ms.length : Int) := by rw [Hml.out]; omega
      have k2 : (k : Int) < (ss.length : Int) := by omega
      have k8 : (k : Int) < 8 := by omega
      replace dx := cell_below hb dx
      go_wp2_with (at_make; refine wpList_make_full _ rfl _ _ 35 rfl wo.heap.size 3 i3 _ 1 Try.underlying35 hi3 hx0 hx1 _ _ _ _ m rfl rfl rfl rfl (by rw [hx2]; omega) (by simp [maxLen]; omega) (Nat.le_refl _) ?_; intro w1 hown1 hg1)
      have hb1 : Below wo.heap.size wo w1 := (Below.refl _ _).grown hg1 (Nat.le_refl _) (by simp)
      have hG1 : wo.heap.size < w1.heap.size := by
        rcases hown1.2 with ⟨h, _⟩ | ⟨g, cap, cur, h, _, hg, _⟩
        · cases h
        · cases h
          exact (Array.getElem?_eq_some_iff.1 hg).1
      have hmade : (madeCells (Value.int .i64 0).cells (m * 1)).toList = (spreadRow m ws k 0).map (.int .i64) := by
        rw [spreadRow, Nat.mul_one, List.map_replicate]
        exact toList_madeCells_one _ _
      rw [hmade] at hown1
      clear hmade hg1
      go_loopw [10] (fun i wi => ∃ j : Nat, j ≤ M ∧ i = .int .i64 j ∧ Below wo.heap.size wo wi ∧ wo.heap.size < wi.heap.size ∧ wi.ownsRow wo.heap.size 3 1 (.slice (some ⟨wo.heap.size, 0, none⟩) m m) m ((spreadRow m ws k j).map (.int .i64))) (fun i wi => M - (intOf i).toNat)
      case atStart => exact ⟨0, by omega, rfl, hb1, hG1, hown1⟩
      case round =>
        obtain ⟨j, hj, rfl, hbj, hGj, hoj⟩ := hrel
        obtain ⟨wi, rfl⟩ : ∃ wi : World, wi = wr := ⟨_, rfl⟩
        have hzi := (hz.below hb).below hbj
        have dxi := cell_below hbj dx
        have fi0 := cell_below hbj f0
        by_cases hjlt : j < M
        · have hjI : (j : Int) < (M : Int) := by omega
          have j0 : (0 : Int) ≤ (j : Int) := by omega
          have hcl := spreadC_lt (n := m) (by omega) (ws := ws) k j
          have hrb := spreadRow_bd (n := m) (by omega) ws k j (spreadC m ws k j)
          have r1' : wi.cell? ⟨wo.heap.size, spreadC m ws k j, none⟩ = some (.int .i64 ((spreadRow m ws k j)[spreadC m ws k j]?.getD 0)) := by
            rw [hoj.cellAt _ (by omega), List.getElem?_map, List.getElem?_eq_getElem (by rw [spreadRow_len]; omega)]
            rfl
          have r2' := hoj.frozenAt (spreadC m ws k j)
          have hst := (hoj.stored (spreadC m ws k j) (.int .i64 ((spreadRow m ws k j)[spreadC m ws k j]?.getD 0 + 1))).1
          rw [← List.map_set] at hst
          have Hst2 := Lib.hid hst
          have hwd := wordI_bd Hw.out (k + j)
          have hcc : ((spreadC m ws k j : Nat) : Int) = wordI ws (k + j) % (m : Int) := by
            unfold spreadC
            have := Int.emod_nonneg (wordI ws (k + j)) (by omega : (m : Int) ≠ 0)
            omega
          obtain ⟨d, hd⟩ : ∃ d, wordI ws (k + j) = d := ⟨_, rfl⟩
          have Hd := Lib.hid hd
          obtain ⟨q, hq⟩ : ∃ q, spreadC m ws k j = q := ⟨_, rfl⟩
          have Hq := Lib.hid hq
          obtain ⟨z, hzz⟩ : ∃ z, (spreadRow m ws k j)[q]?.getD 0 = z := ⟨_, rfl⟩
          rw [hq] at hcl hrb r1' r2' hcc
          rw [hd] at hwd hcc
          rw [hzz] at hrb r1'
          have Hz := Lib.hid hzz
          have Hcc := Lib.hid hcc
          clear hd hq hzz hcc hst
          go_wp2_with fail
          refine wp_region_noPanic ?_
          refine wp_region_pick [0, 1, 2, 3, 4, 6, 7] [5, 8, 9, 10, 11, 12, 13] (fun j => j != 13) (fun w' => w'.cell? ⟨w.heap.size, 0, none⟩ = some (.int .i64 m)) (by kernel_rfl) (by kernel_rfl) (fun _ _ _ _ _ h => h) fi0 (fun hne => ?_)
          have x0 := fun x : Meets (fun w' => w'.cell? ⟨w.heap.size, 0, none⟩ = some (.int .i64 m)) => x.property
          simp only [pick, pickN, List.filterMap_cons, List.filterMap_nil, List.getElem?_cons_zero, List.getElem?_cons_succ, Option.map_some]
          repeat (change wpQuiet _ _ _ _ (_ :: _) _; go_big_quiet_step (fail))
          refine wpQuiet_nil ?_
          clear x0 hne
          refine wpSeqP_step (fun K hK => ?_)
          go_simp
          have hkj : (k : Int) + (j : Int) = ((k + j : Nat) : Int) := by omega
          rw [hkj]
          refine (word_same _ ws (k + j) _ (hzi.below (Below.refl _ _).drew) Hw.out (by omega)).mono ?_
          rw [Hd.out]
          rintro e w2 ⟨rfl, rfl⟩
          refine hK.out _ _ (fun _ => fi0) ?_
          clear hK K hkj
          refine wpSeqP_step (fun K hK => ?_)
          go_simp
          rw [if_neg (by omega : ¬ m = 0), Int.tmod_eq_emod_of_nonneg hwd.1, ← Hcc.out]
          go_simp
          refine hK.out _ _ (fun _ => fi0) ?_
          clear hK K
          have q0 : (0 : Int) ≤ (q : Int) := by omega
          have q1 : (q : Int) < (m : Int) := by omega
          refine wpSeqP_step (fun K hK => ?_)
          go_simp
          refine hK.out _ _ (fun _ => fi0) ?_
          clear hK K
          refine wpSeqP_step (fun K hK => ?_)
          go_simp
          refine hK.out _ _ (fun _ => fi0) ?_
          clear hK K
          refine wpSeqP_step (fun K hK => ?_)
          go_simp
          refine hK.out _ _ (fun _ => fi0) ?_
          clear hK K
          refine wpSeqP_step (fun K hK => ?_)
          go_simp
          refine hK.out _ _ (fun _ => fi0) ?_
          clear hK K
          refine wpSeqP_step (fun K hK => ?_)
          go_simp
          refine hK.out _ _ (fun h => by cases h) ?_
          clear hK K
          refine wpSeqP_nil ?_
          refine NoPanic.normal ?_
          have Hrow : Hid ((spreadRow m ws k j).set q (z + 1) = spreadRow m ws k (j + 1)) := by
            show _ = _
            rw [spreadRow, Hq.out, Hz.out]
          go_wp2
          go_roundw
          case rel =>
            refine ⟨j + 1, by omega, by go_num, (hbj.setCell (p := ⟨wo.heap.size, q, none⟩) (by simp) _).drew, by simpa using hGj, ?_⟩
            have := Hst2.out
            rw [Hq.out, Hz.out, Hrow.out] at this
            exact this
          case measure => simp [intOf]; omega
        · obtain rfl : j = M := by omega
          have hywi := (hy.below hb).below hbj
          obtain ⟨B, C, rfl, hC, hC'⟩ := hywi.form
          have hrow := nums_of_own hoj
          have gi1 := cell_below hbj g1
          have fi1 := cell_below hbj f1
          have ei0 := cell_below hbj (cell_below hb e0)
          have ei1 := cell_below hbj (cell_below hb e1)
          have ei2 := cell_below hbj (cell_below hb e2)
          have ei3 := cell_below hbj (cell_below hb e3)
          have owni := own_below hown hbj
          go_wp2_with fail
          refine wp_region_noPanic ?_
          refine wp_region_pick [0, 1, 2, 3, 4, 5, 6, 7] [8, 9, 10, 11, 12] (fun j => j != 12) (fun w' => w'.cell? ⟨w.heap.size + 1 + 1, 1, none⟩ = some (.slice A' k c') ∧ w'.cell? ⟨w.heap.size, 1, none⟩ = some (.slice (some ⟨b, o, none⟩) ss.length c) ∧ w'.cell? ⟨b, o + k * 4, none⟩ = some (.int .i64 s.coins) ∧ w'.cell? ⟨b, o + k * 4 + 1, none⟩ = some (.int .i64 s.lo) ∧
            w'.cell? ⟨b, o + k * 4 + 2, none⟩ = some (.int .i64 s.hi) ∧ w'.cell? ⟨b, o + k * 4 + 3, none⟩ = some (.slice B s.seen.length C)) (by kernel_rfl) (by kernel_rfl) (fun _ _ _ _ _ h => h) ⟨gi1, fi1, ei0, ei1, ei2, ei3⟩ (fun hne => ?_)
          have m0 := fun x : Meets (fun w' => w'.cell? ⟨w.heap.size + 1 + 1, 1, none⟩ = some (.slice A' k c') ∧ w'.cell? ⟨w.heap.size, 1, none⟩ = some (.slice (some ⟨b, o, none⟩) ss.length c) ∧ w'.cell? ⟨b, o + k * 4, none⟩ = some (.int .i64 s.coins) ∧ w'.cell? ⟨b, o + k * 4 + 1, none⟩ = some (.int .i64 s.lo) ∧
            w'.cell? ⟨b, o + k * 4 + 2, none⟩ = some (.int .i64 s.hi) ∧ w'.cell? ⟨b, o + k * 4 + 3, none⟩ = some (.slice B s.seen.length C)) => x.property
          have x0 := fun x => (m0 x).1
          have x1 := fun x => (m0 x).2.1
          have x2 := fun x => (m0 x).2.2.1
          have x3 := fun x => (m0 x).2.2.2.1
          have x4 := fun x => (m0 x).2.2.2.2.1
          have x5 := fun x => (m0 x).2.2.2.2.2
          clear m0
          simp only [pick, pickN, List.filterMap_cons, List.filterMap_nil, List.getElem?_cons_zero, List.getElem?_cons_succ, Option.map_some]
          repeat (change wpQuiet _ _ _ _ (_ :: _) _; go_big_quiet_step (fail))
          refine wpQuiet_nil ?_
          clear x0 x1 x2 x3 x4 x5 hne
          have hMo := spread_more (n := m) (by omega) Hsn.out ws k j
          have hsx : spreadS m ws ms k s = withS s (spreadRow m ws k j) := by
            unfold spreadS
            rw [Hx.out]
            rfl
          obtain ⟨sx, hsxx⟩ : ∃ sx, withS s (spreadRow m ws k j) = sx := ⟨_, rfl⟩
          refine wpSeqP_step (fun K hK => ?_)
          go_simp
          refine (With_any m s _ _ j _ _ (hywi.below (Below.refl _ _).drew) (hrow.below (Below.refl _ _).drew) (by omega) Hst.out hMo hM).mono ?_
          rw [hsxx] at hsx ⊢
          rintro e w2 ⟨A2, c2, rfl, o2, hb2⟩
          have Hsx := Lib.hid hsx
          clear hsx hsxx hMo
          have hb2d : Below wi.heap.size wi w2 := (Below.refl wi.heap.size wi).drew.trans hb2
          have own2 := own_below owni hb2d
          have S2 := And.intro (cell_below hb2d gi1) (And.intro (cell_below hb2d fi1) (And.intro (cell_below hb2d ei0) (And.intro (cell_below hb2d ei1) (And.intro (cell_below hb2d ei2) (cell_below hb2d ei3)))))
          refine hK.out _ _ (fun _ => S2) ?_
          clear hK K
          refine wpSeqP_step (fun K hK => ?_)
          go_simp
          have hba : Below w2.heap.size w2 (w2.alloc (.cells #[.int .i64 sx.coins, .int .i64 sx.lo, .int .i64 sx.hi, .slice A2 sx.seen.length c2] 44)) := (Below.refl _ _).alloc (Nat.le_refl _) _
          refine hK.out _ _ (fun _ => ⟨cell_below hba S2.1, cell_below hba S2.2.1, cell_below hba S2.2.2.1, cell_below hba S2.2.2.2.1, cell_below hba S2.2.2.2.2.1, cell_below hba S2.2.2.2.2.2⟩) ?_
          clear hK K
          have hszi := hbj.size
          have hsz2 := hb2d.size
          refine wpSeqP_step (fun K hK => ?_)
          refine step_append_src _ rfl (.tmp 45) (.tmp 53) 22 rfl (w.heap.size + 3) 44 i0 _ 4 48 Try.underlying22 hi0 hz0 hz1 hz2 rfl (by omega) (.slice A' k c') k us rfl (own2.alloc _) (some ⟨w2.heap.size, 0, none⟩) 1 1 [.int .i64 sx.coins, .int .i64 sx.lo, .int .i64 sx.hi, .slice A2 sx.seen.length c2] rfl
            (src_new w2 [.int .i64 sx.coins, .int .i64 sx.lo, .int .i64 sx.hi, .slice A2 sx.seen.length c2] 44 1 4 rfl) (by simp [Value.oneCell']) (by simp [maxLen]; omega) (by omega) (by simp; omega) ?_
          intro A3 c3 w3 hown3 hg3
          have P3 := far_cells hg3 own2 hown
          have S3 := And.intro (P3 ⟨w.heap.size + 1 + 1, 1, none⟩ _ (by simp only; omega) S2.1) (And.intro (P3 ⟨w.heap.size, 1, none⟩ _ (by simp only; omega) S2.2.1) (And.intro (P3 ⟨b, o + k * 4, none⟩ _ (by simp only; omega) S2.2.2.1) (And.intro (P3 ⟨b, o + k * 4 + 1, none⟩ _ (by simp only; omega) S2.2.2.2.1) (And.intro (P3 ⟨b, o + k * 4 + 2, none⟩ _ (by simp only; omega) S2.2.2.2.2.1) (P3 ⟨b, o + k * 4 + 3, none⟩ _ (by simp only; omega) S2.2.2.2.2.2)))))
          refine hK.out _ _ (fun _ => S3) ?_
          clear hK K
          refine wpSeqP_step (fun K hK => ?_)
          go_simp
          refine hK.out _ _ (fun _ => S3) ?_
          clear hK K
          have F3 : w3.frozen? ⟨w.heap.size + 1 + 1, 1, none⟩ = false := by
            have e1 : (w2.alloc (.cells #[.int .i64 sx.coins, .int .i64 sx.lo, .int .i64 sx.hi, .slice A2 sx.seen.length c2] 44)).frozen? ⟨w.heap.size + 1 + 1, 1, none⟩ = false := by
              rw [hba.frozen (p := ⟨w.heap.size + 1 + 1, 1, none⟩) (by simp; omega), hb2d.frozen (p := ⟨w.heap.size + 1 + 1, 1, none⟩) (by simp; omega), hbj.frozen (p := ⟨w.heap.size + 1 + 1, 1, none⟩) (by simp; omega)]
              exact gf
            rw [World.frozen?_of_block (w := w2.alloc (.cells #[.int .i64 sx.coins, .int .i64 sx.lo, .int .i64 sx.hi, .slice A2 sx.seen.length c2] 44)) (hg3.block _ (by simp; omega) (fun e => by have q := hown.lt _ e.symm; simp only at q; omega))]
            exact e1
          refine wpSeqP_step (fun K hK => ?_)
          go_simp
          refine hK.out _ _ (fun h => by cases h) ?_
          clear hK K
          refine wpSeqP_nil ?_
          refine NoPanic.normal ?_
          go_wp2
          have hba2 : Below w.heap.size w (w2.alloc (.cells #[.int .i64 sx.coins, .int .i64 sx.lo, .int .i64 sx.hi, .slice A2 sx.seen.length c2] 44)) :=
            ((hb.trans (hbj.mono hb.size)).trans (hb2d.mono (by have := hb.size; omega))).trans (hba.mono (by have := hb.size; omega))
          have hb3 : Below w.heap.size w w3 := below_grown hba2 hg3 hba2.size (own2.alloc _) (by omega)
          have hsz3 : w2.heap.size + 1 ≤ w3.heap.size := by have := hg3.size; simpa using this
          have keepc : ∀ (p : Addr) (u : Value), p.block < w.heap.size + 3 → p ≠ ⟨w.heap.size + 1 + 1, 1, none⟩ → wo.cell? p = some u → (w3.setCell ⟨w.heap.size + 1 + 1, 1, none⟩ (.slice A3 (k + 1) c3)).cell? p = some u := by
            intro p u hp hne hc
            rw [World.cell?_setCell_other _ _ _ _ (Ne.symm hne)]
            exact P3 p u (Or.inl hp) (cell_below hb2d (cell_below hbj hc))
          have keepf : ∀ (p : Addr), p.block < w.heap.size + 3 → wo.frozen? p = false → (w3.setCell ⟨w.heap.size + 1 + 1, 1, none⟩ (.slice A3 (k + 1) c3)).frozen? p = false := by
            intro p hp hc
            rw [World.frozen?_setCell]
            have e1 : (w2.alloc (.cells #[.int .i64 sx.coins, .int .i64 sx.lo, .int .i64 sx.hi, .slice A2 sx.seen.length c2] 44)).frozen? p = false := by
              rw [hba.frozen (p := p) (by omega), hb2d.frozen (p := p) (by omega), hbj.frozen (p := p) (by omega)]
              exact hc
            rw [World.frozen?_of_block (w := w2.alloc (.cells #[.int .i64 sx.coins, .int .i64 sx.lo, .int .i64 sx.hi, .slice A2 sx.seen.length c2] 44)) (hg3.block _ (by simp; omega) (fun e => by have q := hown.lt _ e.symm; omega))]
            exact e1
          go_roundw
          case rel =>
            refine ⟨k + 1, A3, c3, _, by omega, by go_num, hb3.setCell (p := ⟨w.heap.size + 1 + 1, 1, none⟩) (by simp only; omega) _, by simp; omega, keepc _ _ (by simp only; omega) (by simp) f0, keepc _ _ (by simp only; omega) (by simp) f1, keepc _ _ (by simp only; omega) (by simp) g0,
              World.cell?_setCell_same' _ _ _ (by rw [S3.1]; rfl), keepf _ (by simp only; omega) gf, keepc _ _ (by simp only; omega) (by simp) r0, keepc _ _ (by simp only; omega) (by simp) r1, keepf _ (by simp only; omega) rf0, keepf _ (by simp only; omega) rf1,
              ownsRow_setCell_below hown3 (by simp only; omega) _, ?_⟩
            rw [List.take_add_one, spreadL_get Hs.out, Hsx.out]
            have h1 : StrataOwn (w2.alloc (.cells #[.int .i64 sx.coins, .int .i64 sx.lo, .int .i64 sx.hi, .slice A2 sx.seen.length c2] 44)) (w.heap.size + 3) us ((spreadL m ss ms ws).take k) := ((Hso.out.below hbj).below hb2d).below hba
            have h2 := h1.kept (own2.alloc _) (by decide) hg3
            have ho2 : w3.ownsRow (w.heap.size + 3) 3 1 (.slice A2 sx.seen.length c2) sx.seen.length (sx.seen.map (.int .i64)) :=
              own_mono (((o2.alloc _).kept hg3 (own_apart o2 own2 (by decide)))) (by show w.heap.size + 3 ≤ wi.heap.size; omega)
            exact (h2.snoc ho2).set (by simp only; omega) _
          case measure => simp [intOf]; omega
    · obtain rfl : k = ss.length := by omega
      rw [List.take_of_length_le (by rw [spreadL_len]; exact Nat.le_refl _)] at Hso
      go_wp2
      refine bodyPost_ret (v := .agg #[.int .i64 m, .slice A' ss.length c']) (by simp [results, Try.results48, go_sem, g0, g1, r0, r1, rf0, rf1]) rfl ⟨A', c', us, by rw [spreadL_len], ?_, ?_, ?_⟩
      · rw [spreadL_len]
        exact own_mono (ownsRow_setCell_below (ownsRow_setCell_below hown (by simp only; omega) _) (by simp only; omega) _) (by omega)
      · have h := (Hso.out.set (a := ⟨w.heap.size + 1, 0, none⟩) (by simp only; omega) (.int .i64 m)).set (a := ⟨w.heap.size + 1, 1, none⟩) (by simp only; omega) (.slice A' ss.length c')
        exact ⟨h.1, fun j l hl => by obtain ⟨p, q, r, u, h1, h2⟩ := h.2 j l hl; exact ⟨p, q, r, u, h1, own_mono h2 (by omega)⟩⟩
      · exact (hb.setCell (p := ⟨w.heap.size + 1, 0, none⟩) (by simp only; omega) _).setCell (p := ⟨w.heap.size + 1, 1, none⟩) (by simp only; omega) _
theorem spread_any (m : Nat) (v u uw : Value) (ss : List Strat) (ms ws : List Int) (w : World) (hv : StrataAt w v ss) (hu : NumsAt .i64 w u ms) (hz : NumsAt .u16 w uw ws) (hw : WordsOk ws) (hf : faultI m ss = 0) (hml : ms.length = ss.length)
    (hms : ∀ (j : Nat) (s : Strat), ss[j]? = some s → 0 ≤ ms[j]?.getD 0 ∧ ms[j]?.getD 0 ≤ s.hi - sumL s.seen) :
    Calls Try.prog 48 #[.agg #[.int .i64 m, v], u, uw] w (GivesPool w m (spreadL m ss ms ws)) :=
  (spread_own m v u uw ss ms ws w hv hu hz hw hf hml hms).mono fun e w' ⟨A, c, us, he, ho, hs, hb⟩ => ⟨_, he, strata_of_own ho hs, hb⟩
end Go.Proofs.Ytobeffjdfhkjeaa
