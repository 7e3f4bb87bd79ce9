import Derived.Test.YtmbkpfkkohpnkaaMk
import Derived.Test.YtmbkpfkkohpnkaaDe
set_option linter.unusedVariables false
set_option linter.unusedSimpArgs false
namespace Go.Proofs.Ytmbkpfkkohpnkaa
open Go Go.Proofs Go.RowKit

/-! ### Total -/
theorem foldl_keep {α : Type} (P : Int → Prop) (f : Int → α → Int) (h : ∀ m x, P m → P (f m x)) : ∀ (l : List α) (m : Int), P m → P (l.foldl f m)
  | [], m, hm => hm
  | x :: l, m, hm => foldl_keep P f h l _ (h m x hm)
theorem dea_bd {t : Tar} (ht : tarB t = true) : 0 ≤ deaT t ∧ deaT t ≤ 10000 := by
  have hall : ∀ x ∈ t.singles, 0 ≤ x ∧ x ≤ 10000 := (kindL_ok ht 0).2
  have hc : ∀ lo hi, 0 ≤ cheapT t lo hi ∧ cheapT t lo hi ≤ 10000 := fun lo hi => cheF_bd hall _ 10000 (by omega) (by omega)
  unfold deaT
  refine foldl_keep (fun m => 0 ≤ m ∧ m ≤ 10000) _ (fun m lo hm => ?_) _ _ (by omega)
  unfold deaRow
  refine foldl_keep (fun m => 0 ≤ m ∧ m ≤ 10000) _ (fun m k hm => ?_) _ _ hm
  have := hc lo ((lo + k : Nat) : Int)
  omega
theorem sumI_take (l : List Int) {k : Nat} {x : Int} (h : l[k]? = some x) : sumI (l.take (k + 1)) = sumI (l.take k) + x := by
  rw [List.take_add_one, h, sumI_append]
  simp [sumI]
theorem lostL_take (l : List (List Int)) {k : Nat} {x : List Int} (h : l[k]? = some x) : lostL (l.take (k + 1)) = lostL (l.take k) + x.length := by
  rw [List.take_add_one, h, lostL_append]
  simp [lostL]
theorem sumI_bd {B : Int} : ∀ {l : List Int}, (∀ x ∈ l, 0 ≤ x ∧ x ≤ B) → 0 ≤ sumI l ∧ sumI l ≤ B * l.length
  | [], _ => by simp [sumI]
  | x :: l, h => by
    have h1 := h x (by simp)
    have h2 := sumI_bd (l := l) fun y hy => h y (by simp [hy])
    simp only [sumI, List.length_cons, Int.natCast_add, Int.mul_add]
    omega
theorem lostL_bd {B : Nat} : ∀ {l : List (List Int)}, (∀ x ∈ l, x.length ≤ B) → lostL l ≤ B * l.length
  | [], _ => by simp [lostL]
  | x :: l, h => by
    have h1 := h x (by simp)
    have h2 := lostL_bd (l := l) fun y hy => h y (by simp [hy])
    simp only [lostL, List.length_cons, Nat.mul_add]
    omega
theorem dues_bd {t : Tar} {l : List Tp} {cs : List Int} (h : TapsOk t l cs) : ∀ x ∈ duesL t l, 0 ≤ x ∧ x ≤ 120000 := fun x hx => by
  unfold duesL at hx
  obtain ⟨c, hc, rfl⟩ := List.mem_map.1 hx
  exact pay_bd (h.rode (List.mem_range.1 hc)) noneC
theorem miss_bd {t : Tar} {l : List Tp} {cs : List Int} (h : TapsOk t l cs) : ∀ x ∈ missLL l cs, x.length ≤ 50 := fun x hx => by
  unfold missLL at hx
  obtain ⟨m, hm, rfl⟩ := List.mem_map.1 hx
  have hb : cntAt cs m ≤ 50 := by
    unfold cntAt
    cases hq : cs[(m : Int).toNat]? with
    | none => decide
    | some y => exact (h.cnt y (List.mem_of_getElem? hq)).2
  have := missK_len l m (cntAt cs m).toNat
  rw [missL_eq]
  omega
/-- What Total hands back. -/
def GivesTotal (t : Tar) (l : List Tp) (cs : List Int) (w : World) (e : Ending) (w' : World) : Prop :=
  Below w.heap.size w w' ∧ ((tapsF t l cs ≠ 0 → e = .returned (.tuple #[.agg #[.int .i64 0, .int .i64 0], .int .i64 (tapsF t l cs)])) ∧
    (tapsF t l cs = 0 → e = .returned (.tuple #[.agg #[.int .i64 (totalLo t l), .int .i64 (totalHi t l cs)], .int .i64 0])))
theorem two_set {W : World} {R : Nat} {u v s p : Value} (h : W.heap[R]? = some (.cells #[u, v] 61 (0, 0))) :
    ((W.setCell ⟨R, 0, none⟩ s).setCell ⟨R, 1, none⟩ p).heap[R]? = some (.cells #[s, p] 61 (0, 0)) ∧ W.grownBy ((W.setCell ⟨R, 0, none⟩ s).setCell ⟨R, 1, none⟩ p) (some R) :=
  ⟨blk_set (o := 1) (blk_set (o := 0) h s) p, grown_set (grown_set (World.grownBy.refl W _) _ _) _ _⟩
theorem one_set {W : World} {R : Nat} {u v s : Value} (h : W.heap[R]? = some (.cells #[u, v] 61 (0, 0))) : (W.setCell ⟨R, 0, none⟩ s).heap[R]? = some (.cells #[s, v] 61 (0, 0)) := blk_set (o := 0) h s
theorem snd_set {W : World} {R : Nat} {u v s : Value} (h : W.heap[R]? = some (.cells #[u, v] 61 (0, 0))) : (W.setCell ⟨R, 1, none⟩ s).heap[R]? = some (.cells #[u, s] 61 (0, 0)) := blk_set (o := 1) h s
set_option maxRecDepth 100000 in
set_option maxHeartbeats 4000000 in
theorem Total_any (t : Tar) (a b c v z : Value) (l : List Tp) (cs : List Int) (w : World) (hT : TarAt w a b c t) (hv : TpsAt w v l) (hc : NumsAt .i64 w z cs) (hl : l.length ≤ 1000000) :
    Calls Try.prog 36 #[.agg #[.int .i64 t.zones, a, b, c, .int .i64 t.window], v, z] w (GivesTotal t l cs w) := by
  obtain ⟨A0, c0, rfl, _, _⟩ := hv.form
  obtain ⟨A1, c1, rfl, _, _⟩ := hc.form
  have HT := Lib.hid hT
  have Hv := Lib.hid hv
  have Hc := Lib.hid hc
  clear hT hv hc
  generalize hcl : cs.length = CL at *
  clear hcl
  go_enter Try.func36, Try.ntmps36
  go_upto_region 1 with (fail)
  refine wp_name (fun W => Below w.heap.size w W ∧ w.heap.size + 1 < W.heap.size ∧ W.heap[w.heap.size]? = some (.cells #[.int .i64 t.zones, a, b, c, .int .i64 t.window] 32 (0, 0)) ∧ W.heap[w.heap.size + 1]? = some (.cells #[.int .i64 0, .int .i64 0] 61 (0, 0))) ⟨two_below w _ _, by simp, (Below.heap_alloc _ _ _ (by simp)).trans (heap_alloc_new w _), heap_alloc2_new w _ _⟩ (fun W hW => ?_)
  obtain ⟨hb, hs, hA, hR⟩ := hW
  have hR0 : w.heap.size ≤ w.heap.size + 1 := by omega
  have hR1 : w.heap.size ≠ w.heap.size + 1 := by omega
  generalize w.heap.size + 1 = R at *
  have aq := box_cells hA
  have a0 := aq 0
  have a1 := aq 1
  have a2 := aq 2
  have a3 := aq 3
  have a4 := aq 4
  simp only [List.getElem?_toArray, List.getElem?_cons_zero, List.getElem?_cons_succ] at a0 a1 a2 a3 a4
  clear aq
  have HA := Lib.hid hA
  have HR := Lib.hid hR
  have Hb := Lib.hid hb
  clear hA hR
  go_wp2_with fail
  refine (Charges_any t a b c _ _ l cs W (HT.out.below hb) (Hv.out.below hb) (Hc.out.below hb) hl).mono ?_
  rintro e w1 ⟨hb1, hbad, hgood⟩
  clear a0 a1 a2 a3 a4 hb
  have HA1 := Lib.hid ((hb1.block _ (Array.getElem?_eq_some_iff.1 HA.out).1).trans HA.out)
  have HR1 := Lib.hid ((hb1.block _ (Array.getElem?_eq_some_iff.1 HR.out).1).trans HR.out)
  have Hw1 := Lib.hid (Hb.out.trans (hb1.mono Hb.out.size))
  clear HA HR Hb hb1
  by_cases h0 : tapsF t l cs = 0
  rotate_left
  · have hbb := hbad h0
    subst hbb
    have H0 := Lib.hid h0
    have hd : (tapsF t l cs != 0) = true := by simpa using h0
    clear hbad hgood h0
    generalize hF : tapsF t l cs = E at *
    have HF := Lib.hid hF
    clear hF
    have rq := box_cells HR1.out
    have r0 := rq 0
    have r1 := rq 1
    simp only [List.getElem?_toArray, List.getElem?_cons_zero, List.getElem?_cons_succ] at r0 r1
    clear rq
    have fr0 := box_frozen HR1.out 0
    have fr1 := box_frozen HR1.out 1
    go_wp2
    obtain ⟨zz, zg⟩ := two_set (s := .int .i64 0) (p := .int .i64 0) HR1.out
    have z0 := box_cells zz 0
    have z1 := box_cells zz 1
    simp only [List.getElem?_toArray, List.getElem?_cons_zero, List.getElem?_cons_succ] at z0 z1
    refine bodyPost_ret (v := .tuple #[.agg #[.int .i64 0, .int .i64 0], .int .i64 E]) (by simp [results, Try.results36, go_sem, z0, z1]) rfl ?_
    exact ⟨below_by Hw1.out hR0 zg, fun _ => by rw [HF.out], fun h => absurd (HF.out.symm.trans h) H0.out⟩
  obtain ⟨Ad, kd, rfl, hnd⟩ := hgood h0
  have H0 := Lib.hid h0
  have Hok := Lib.hid (tapsF_ok.1 h0)
  have Hnd := Lib.hid hnd
  clear hbad hgood h0 hnd
  have aq := box_cells HA1.out
  have a0 := aq 0
  have a1 := aq 1
  have a2 := aq 2
  have a3 := aq 3
  have a4 := aq 4
  simp only [List.getElem?_toArray, List.getElem?_cons_zero, List.getElem?_cons_succ] at a0 a1 a2 a3 a4
  clear aq
  go_wp2_with fail
  refine (Missing_any t a b c _ _ l cs w1 (HT.out.below Hw1.out) (Hv.out.below Hw1.out) (Hc.out.below Hw1.out) hl).mono ?_
  rintro e w2 ⟨hb2, _, hgood⟩
  clear a0 a1 a2 a3 a4
  obtain ⟨Am, km, rfl, hrm⟩ := hgood H0.out
  have HA2 := Lib.hid ((hb2.block _ (Array.getElem?_eq_some_iff.1 HA1.out).1).trans HA1.out)
  have HR2 := Lib.hid ((hb2.block _ (Array.getElem?_eq_some_iff.1 HR1.out).1).trans HR1.out)
  have Hw2 := Lib.hid (Hw1.out.trans (hb2.mono Hw1.out.size))
  have Hnd2 := Lib.hid (Hnd.out.below hb2)
  have Hrm := Lib.hid hrm
  have hsR : R < w2.heap.size := (Array.getElem?_eq_some_iff.1 HR2.out).1
  clear HA1 HR1 Hw1 hb2 hgood hrm Hnd
  have hdb := dues_bd Hok.out
  have hmb := miss_bd Hok.out
  have hdea := dea_bd Hok.out.tar
  have hdl : (duesL t l).length = 10 := duesL_len t l
  have hml : (missLL l cs).length = 4 := by simp [missLL, Hok.out.four]
  obtain ⟨ds, hds⟩ : ∃ ds, duesL t l = ds := ⟨_, rfl⟩
  obtain ⟨ms, hms⟩ : ∃ ms, missLL l cs = ms := ⟨_, rfl⟩
  rw [hds] at Hnd2 hdb hdl ⊢
  rw [hms] at Hrm hmb hml ⊢
  have Hds := Lib.hid hds
  have Hms := Lib.hid hms
  have Hdb := Lib.hid hdb
  have Hmb := Lib.hid hmb
  have Hdea := Lib.hid hdea
  have Hdl := Lib.hid hdl
  have hdl10 : ds.length ≤ 10 := Nat.le_of_eq hdl
  have hml4 : ms.length ≤ 4 := Nat.le_of_eq hml
  have Hml := Lib.hid hml
  clear hds hms hdb hmb hdea hdl hml
  go_upto_region 8 with (fail)
  refine wp_name (fun V => Below w2.heap.size w2 V ∧ V.heap[w2.heap.size]? = some (.cells #[.int .i64 0, .int .i64 0] 61 (0, 0))) ⟨(Below.refl _ _).alloc (Nat.le_refl _) _, heap_alloc_new w2 _⟩ (fun V hV => ?_)
  obtain ⟨hbV, hXV⟩ := hV
  have hO0 : w.heap.size ≤ w2.heap.size := Hw2.out.size
  obtain ⟨OB, hOB⟩ : ∃ OB, w2.heap.size = OB := ⟨_, rfl⟩
  rw [hOB] at hXV hsR hO0 ⊢
  have HOB := Lib.hid hOB
  have HbV := Lib.hid hbV
  have HXV := Lib.hid hXV
  clear hbV hXV hOB
  go_wp2
  go_loopw [40] (fun s wr => ∃ k : Nat, k ≤ ds.length ∧ s = .int .i64 k ∧ Below w2.heap.size w2 wr ∧ wr.heap[OB]? = some (.cells #[.int .i64 (sumI (ds.take k)), .int .i64 0] 61 (0, 0))) (fun s wr => ds.length - (intOf s).toNat)
  case atStart => exact ⟨0, by omega, rfl, HbV.out, by simpa [sumI] using HXV.out⟩
  case round =>
    obtain ⟨k, hk, rfl, hbr, hxr⟩ := hrel
    have Hbr := Lib.hid hbr
    have Hxr := Lib.hid hxr
    clear hbr hxr HbV HXV
    by_cases hlt : k < ds.length
    · obtain ⟨bb, oo, x, rfl, hx, dx, _⟩ := (Hnd2.out.below Hbr.out).at_ (k := k) hlt
      have ik : (k : Int) < (ds.length : Int) := by omega
      have hxb := Hdb.out x (List.mem_of_getElem? hx)
      have hsb := sumI_bd (B := 120000) (l := ds.take k) fun y hy => Hdb.out y (List.mem_of_mem_take hy)
      have hl2 : ((ds.take k).length : Int) ≤ 10 := by have := Hdl.out; simp; omega
      have hst := sumI_take ds hx
      have Hst := Lib.hid hst
      obtain ⟨sm, hsm⟩ : ∃ sm, sumI (ds.take k) = sm := ⟨_, rfl⟩
      have hxr := Hxr.out
      rw [hsm] at hxr hsb
      have Hsm := Lib.hid hsm
      have q : IntKind.i64.wrap (sm + x) = sm + x := IntWalk.i64_in _ (by omega)
      have Hx2 := Lib.hid hxr
      have rq := box_cells hxr
      have r0 := rq 0
      have r1 := rq 1
      simp only [List.getElem?_toArray, List.getElem?_cons_zero, List.getElem?_cons_succ] at r0 r1
      clear rq
      have fr0 := box_frozen hxr 0
      clear hx hst hsm hxr hsb hl2 hxb
      go_wp2
      go_roundw
      case rel =>
        refine ⟨k + 1, by omega, by go_num, Hbr.out.setCell (p := ⟨OB, 0, none⟩) (by simp only; have := HOB.out; omega) _, ?_⟩
        rw [Hst.out, Hsm.out]
        exact one_set Hx2.out
      case measure => simp [intOf]; omega
    · have hke : k = ds.length := by omega
      have ik : ¬ (k : Int) < (ds.length : Int) := by omega
      have hxr := Hxr.out
      rw [hke, List.take_length] at hxr
      have hsb := sumI_bd (B := 120000) (l := ds) Hdb.out
      have hl2 : (ds.length : Int) = 10 := by have := Hdl.out; omega
      rw [hl2] at hsb
      have hlo : totalLo t l = sumI ds := by unfold totalLo; rw [Hds.out]
      obtain ⟨sm, hsm⟩ : ∃ sm, sumI ds = sm := ⟨_, rfl⟩
      rw [hsm] at hxr hsb hlo
      have Hlo := Lib.hid hlo
      have Hx2 := Lib.hid hxr
      have rq := box_cells hxr
      have r0 := rq 0
      have r1 := rq 1
      simp only [List.getElem?_toArray, List.getElem?_cons_zero, List.getElem?_cons_succ] at r0 r1
      clear rq
      have fr1 := box_frozen hxr 1
      clear hsm hxr hl2 hlo hke
      go_upto_region 14 with (fail)
      refine wp_name (fun V2 => Below w2.heap.size w2 V2 ∧ V2.heap[OB]? = some (.cells #[.int .i64 sm, .int .i64 sm] 61 (0, 0))) ⟨Hbr.out.setCell (p := ⟨OB, 1, none⟩) (by simp only; have := HOB.out; omega) _, snd_set Hx2.out⟩ (fun V2 hV2 => ?_)
      obtain ⟨hb2, hx2⟩ := hV2
      have Hb2 := Lib.hid hb2
      have HX2 := Lib.hid hx2
      clear hb2 hx2 r0 r1 fr1 Hx2 Hbr
      go_wp2
      go_loopw [55] (fun s wr => ∃ k : Nat, k ≤ ms.length ∧ s = .int .i64 k ∧ Below w2.heap.size w2 wr ∧ wr.heap[OB]? = some (.cells #[.int .i64 sm, .int .i64 (sm + (lostL (ms.take k) : Int) * deaT t)] 61 (0, 0))) (fun s wr => ms.length - (intOf s).toNat)
      case atStart => exact ⟨0, by omega, rfl, Hb2.out, by simpa [lostL] using HX2.out⟩
      case round =>
        obtain ⟨j, hj, rfl, hbs, hxs⟩ := hrel
        have Hbs := Lib.hid hbs
        have Hxs := Lib.hid hxs
        clear hbs hxs Hb2 HX2
        by_cases hltj : j < ms.length
        · obtain ⟨bm, om, row, u, rfl, hrow, du, hnu, _⟩ := (Hrm.out.below Hbs.out).at_ (k := j) hltj
          obtain ⟨Au, cu, rfl, _, _⟩ := hnu.form
          have ij : (j : Int) < (ms.length : Int) := by omega
          have hrl := Hmb.out row (List.mem_of_getElem? hrow)
          have hst := lostL_take ms hrow
          have hlb := lostL_bd (B := 50) (l := ms.take j) fun y hy => Hmb.out y (List.mem_of_mem_take hy)
          have hl3 : (ms.take j).length ≤ 4 := by have := Hml.out; simp; omega
          have hl4 : lostL (ms.take j) ≤ 200 := Nat.le_trans hlb (Nat.mul_le_mul_left 50 hl3)
          obtain ⟨q, hq⟩ : ∃ q, lostL (ms.take j) = q := ⟨_, rfl⟩
          have hxs := Hxs.out
          rw [hq] at hxs hst hl4
          have hde := Hdea.out
          obtain ⟨dv, hdv⟩ : ∃ dv, deaT t = dv := ⟨_, rfl⟩
          rw [hdv] at hxs hde
          have hp1 : (0 : Int) ≤ (q : Int) * dv ∧ (q : Int) * dv ≤ 2000000 := ⟨Int.mul_nonneg (by omega) hde.1, Int.le_trans (Int.mul_le_mul (show (q : Int) ≤ 200 by omega) hde.2 hde.1 (by omega)) (by omega)⟩
          have hp2 : (0 : Int) ≤ (row.length : Int) * dv ∧ (row.length : Int) * dv ≤ 500000 := ⟨Int.mul_nonneg (by omega) hde.1, Int.le_trans (Int.mul_le_mul (show (row.length : Int) ≤ 50 by omega) hde.2 hde.1 (by omega)) (by omega)⟩
          have Hq := Lib.hid hq
          have Hst := Lib.hid hst
          have Hdv := Lib.hid hdv
          obtain ⟨hi0, hhi0⟩ : ∃ h : Int, sm + (q : Int) * dv = h := ⟨_, rfl⟩
          rw [hhi0] at hxs
          have hh0 : 0 ≤ hi0 ∧ hi0 ≤ 3200000 := by omega
          have Hh0 := Lib.hid hhi0
          have w1' : IntKind.i64.wrap ((row.length : Int) * dv) = (row.length : Int) * dv := IntWalk.i64_in _ (by omega)
          have w2' : IntKind.i64.wrap (hi0 + (row.length : Int) * dv) = hi0 + (row.length : Int) * dv := IntWalk.i64_in _ (by omega)
          have hAs := (Hbs.out.block _ (by have := HOB.out; omega)).trans HA2.out
          have aq := box_cells hAs
          have a0 := aq 0
          have a1 := aq 1
          have a2 := aq 2
          have a3 := aq 3
          have a4 := aq 4
          simp only [List.getElem?_toArray, List.getElem?_cons_zero, List.getElem?_cons_succ] at a0 a1 a2 a3 a4
          clear aq
          have rq := box_cells hxs
          have r0 := rq 0
          have r1 := rq 1
          simp only [List.getElem?_toArray, List.getElem?_cons_zero, List.getElem?_cons_succ] at r0 r1
          clear rq
          have Hx3 := Lib.hid hxs
          have HAs := Lib.hid hAs
          clear hrow hst hlb hl3 hl4 hq hdv hhi0 hp1 hp2 hh0 hrl hde hAs hnu hxs
          have hd : Below wr.heap.size wr wr.drew := (Below.refl _ _).drew
          go_upto_region 17 with (fail)
          refine wp_region_noPanic ?_
          refine wp_region_pick [0, 1, 2, 3, 4] [5, 6, 7, 8, 9] (fun i => i != 9) (fun w' => Below wr.heap.size wr w') (by kernel_rfl) (by kernel_rfl) (fun _ _ _ _ _ h => h) hd (fun hne => ?_)
          have n0 := fun x : Meets (fun w' => Below wr.heap.size wr w') => cell_below x.property r1
          have n1 := fun x : Meets (fun w' => Below wr.heap.size wr w') => cell_below x.property a0
          have n2 := fun x : Meets (fun w' => Below wr.heap.size wr w') => cell_below x.property a1
          have n3 := fun x : Meets (fun w' => Below wr.heap.size wr w') => cell_below x.property a2
          have n4 := fun x : Meets (fun w' => Below wr.heap.size wr w') => cell_below x.property a3
          have n5 := fun x : Meets (fun w' => Below wr.heap.size wr w') => cell_below x.property a4
          simp only [pick, pickN, List.filterMap_cons, List.filterMap_nil, List.getElem?_cons_zero, List.getElem?_cons_succ, Option.map_some]
          repeat (change wpQuiet _ _ _ _ (_ :: _) _; go_big_quiet_step (fail))
          refine wpQuiet_nil ?_
          clear n0 n1 n2 n3 n4 n5 hne r0 r1 a0 a1 a2 a3 a4
          refine wpSeqP_step (fun K hK => ?_)
          go_simp
          refine (dearest_any t a b c _ ((HT.out.below Hw2.out).below (Hbs.out.trans (hd.mono Hbs.out.size))) Hok.out.tar).mono ?_
          rintro e w8 ⟨rfl, hb8⟩
          have hb78 := hd.trans (hb8.mono hd.size)
          rw [Hdv.out]
          refine hK.out _ _ (fun _ => hb78) ?_
          clear hK K
          refine wpSeqP_step (fun K hK => ?_)
          go_simp
          refine hK.out _ _ (fun _ => hb78) ?_
          clear hK K
          refine wpSeqP_step (fun K hK => ?_)
          go_simp
          refine hK.out _ _ (fun _ => hb78) ?_
          clear hK K
          have hx8 := (hb78.block _ (Array.getElem?_eq_some_iff.1 Hx3.out).1).trans Hx3.out
          have r1 := box_cells hx8 1
          have fr1 := box_frozen hx8 1
          simp only [List.getElem?_toArray, List.getElem?_cons_zero, List.getElem?_cons_succ] at r1
          refine wpSeqP_step (fun K hK => ?_)
          go_simp
          refine hK.out _ _ (fun _ => hb78) ?_
          clear hK K
          refine wpSeqP_step (fun K hK => ?_)
          go_simp
          refine hK.out _ _ (fun h => by cases h) ?_
          clear hK K
          refine wpSeqP_nil ?_
          refine NoPanic.normal ?_
          have Hx8 := Lib.hid hx8
          have Hb8 := Lib.hid hb78
          clear r1 fr1 hx8 hb8 hb78
          go_wp2
          go_roundw
          case rel =>
            refine ⟨j + 1, by omega, by go_num, (Hbs.out.trans (Hb8.out.mono Hbs.out.size)).setCell (p := ⟨OB, 1, none⟩) (by simp only; have := HOB.out; omega) _, ?_⟩
            have e9 : sm + ((lostL (ms.take (j + 1)) : Nat) : Int) * deaT t = hi0 + (row.length : Int) * dv := by
              rw [Hst.out, Hdv.out, ← Hh0.out, Int.natCast_add, Int.add_mul]
              omega
            rw [e9]
            exact snd_set Hx8.out
          case measure => simp [intOf]; omega
        · have hje : j = ms.length := by omega
          have ij : ¬ (j : Int) < (ms.length : Int) := by omega
          have hxs := Hxs.out
          rw [hje, List.take_length] at hxs
          have hhi : totalHi t l cs = sm + (lostL ms : Int) * deaT t := by unfold totalHi lostN; rw [Hlo.out, Hms.out]
          obtain ⟨hv, hhv⟩ : ∃ hv, sm + (lostL ms : Int) * deaT t = hv := ⟨_, rfl⟩
          rw [hhv] at hxs hhi
          have Hhi := Lib.hid hhi
          have rq := box_cells hxs
          have r0 := rq 0
          have r1 := rq 1
          simp only [List.getElem?_toArray, List.getElem?_cons_zero, List.getElem?_cons_succ] at r0 r1
          clear rq
          have hRs := (Hbs.out.block _ (by have := HOB.out; omega)).trans HR2.out
          have pq := box_cells hRs
          have p0 := pq 0
          have p1 := pq 1
          simp only [List.getElem?_toArray, List.getElem?_cons_zero, List.getElem?_cons_succ] at p0 p1
          clear pq
          have fp0 := box_frozen hRs 0
          have fp1 := box_frozen hRs 1
          have HRs := Lib.hid hRs
          clear hhv hxs hhi hje hRs
          go_wp2
          obtain ⟨zz, zg⟩ := two_set (s := .int .i64 sm) (p := .int .i64 hv) HRs.out
          have z0 := box_cells zz 0
          have z1 := box_cells zz 1
          simp only [List.getElem?_toArray, List.getElem?_cons_zero, List.getElem?_cons_succ] at z0 z1
          refine bodyPost_ret (v := .tuple #[.agg #[.int .i64 sm, .int .i64 hv], .int .i64 0]) (by simp [results, Try.results36, go_sem, z0, z1]) rfl ?_
          exact ⟨below_by (Hw2.out.trans (Hbs.out.mono Hw2.out.size)) hR0 zg, fun h => absurd H0.out h, fun _ => by rw [Hlo.out, Hhi.out]⟩
end Go.Proofs.Ytmbkpfkkohpnkaa
