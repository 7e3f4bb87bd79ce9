import Derived.Test.YtmbkpfkkohpnkaaPy
set_option linter.unusedVariables false
set_option linter.unusedSimpArgs false
namespace Go.Proofs.Ytmbkpfkkohpnkaa
open Go Go.Proofs Go.RowKit

/-! ### charge, Tickets -/
theorem World.heap_alloc_at (w : World) (o : Obj) (k : Nat) : (w.alloc o).heap[k]? = if k = w.heap.size then some o else w.heap[k]? := by
  by_cases h : k = w.heap.size
  · subst h
    rw [if_pos rfl]
    exact World.alloc_heap_new w o
  · rw [if_neg h]
    rcases Nat.lt_or_ge k w.heap.size with h1 | h1
    · exact Below.heap_alloc w o k h1
    · rw [Array.getElem?_eq_none h1, Array.getElem?_eq_none (by simp; omega)]
theorem drewN_below {B : Nat} {a w : World} (h : Below B a w) (n : Nat) : Below B a (w.drewN n) := ⟨h.os, h.tape, h.output, h.size, h.block⟩
theorem noneC_len : noneC.length = 12 := by simp [noneC]
set_option maxRecDepth 100000 in
set_option maxHeartbeats 2000000 in
theorem charge_any (t : Tar) (a b c v : Value) (l : List Rd) (w : World) (hr : Rode t l) (hT : TarAt w a b c t) (hv : RdsAt w v l) :
    Calls Try.prog 52 #[.agg #[.int .i64 t.zones, a, b, c, .int .i64 t.window], v] w fun e w' => ∃ u, e = .returned u ∧ BillAt w' u (chargeT t l) ∧ Below w.heap.size w w' := by
  obtain ⟨Ar, cr, rfl, hcr, hmr⟩ := hv.form
  have Hr := Lib.hid hr
  have HT := Lib.hid hT
  have Hv := Lib.hid hv
  clear hr hT hv
  have mk : ∀ (t : TypeId) (w : World), (Instr.makeMap t none).run Try.prog w = .ok (.map (some w.heap.size)) (w.alloc (.map #[] 0)) := fun t w => run_makeMap t w
  go_enter Try.func52, Try.ntmps52
  go_upto_region 5 with (fail)
  refine wp_name (fun V => Below w.heap.size w V ∧ V.heap[w.heap.size + 1 + 1]? = some (.cells #[.slice none 0 0, .int .i64 0] 99 (0, 0)) ∧ PaySt w t a b c (.slice Ar l.length cr) l (w.heap.size + 1) (w.heap.size + 1 + 1 + 1 + 1 + 1) (w.heap.size + 1 + 1 + 1 + 1 + 1 + 1) (w.heap.size + 1 + 1 + 1 + 1 + 1 + 1 + 1) (w.heap.size + 1 + 1 + 1 + 1) (w.heap.size + 1 + 1 + 1) V 0 (fun _ => none)) ?_ (fun V hV => ?_)
  · refine ⟨((((((((Below.refl _ _).alloc (Nat.le_refl _) _).alloc (by simp) _).alloc (by simp; omega) _).alloc (by simp; omega) _).alloc (by simp; omega) _).alloc (by simp; omega) _).alloc (by simp; omega) _).alloc (by simp; omega) _, ?_, ⟨((((((((Below.refl _ _).alloc (Nat.le_refl _) _).alloc (by simp) _).alloc (by simp; omega) _).alloc (by simp; omega) _).alloc (by simp; omega) _).alloc (by simp; omega) _).alloc (by simp; omega) _).alloc (by simp; omega) _, ?_, ?_, ?_, ?_, ?_, ⟨.map [], ⟨#[], 0, ?_, ⟨by simp, MapKept.stamped_empty 0, by simp⟩, Nat.le_refl _, rfl⟩, fun v l _ => ⟨rfl, fun z => rfl⟩⟩, Nat.zero_le _, fun m v _ h => (by cases h), by omega⟩⟩
    all_goals (simp only [World.heap_alloc_at, World.size_alloc]; repeat (first | rw [if_pos trivial] | rw [if_neg (by omega)] | rw [if_pos (by omega)]))
  obtain ⟨hb1, hR1, hst1⟩ := hV
  have hp1 := box_cells hst1.pb 0
  simp only [List.getElem?_toArray, List.getElem?_cons_zero] at hp1
  have hcall := pay_any w t a b c (.slice Ar l.length cr) l _ _ _ _ _ _ Hr.out HT.out Hv.out 13 noneC V 0 (fun _ => none) noneC_len (by have := openN_le l noneC; have := Hr.out.len; omega) hst1
  have hnv : nowV noneC = .agg #[.bool false, .bool false, .bool false, .bool false, .bool false, .bool false, .bool false, .bool false, .bool false, .bool false, .bool false, .bool false] := rfl
  rw [hnv] at hcall
  have Hcall := Lib.hid hcall
  have HR1 := Lib.hid hR1
  have Hb1 := Lib.hid hb1
  have Hst1 := Lib.hid hst1
  clear hcall hnv hR1 hb1 hst1 mk
  go_wp2_with fail
  refine Hcall.out.mono ?_
  rintro e w2 ⟨u, n', F', rfl, ⟨A2, k2, rfl, ho2⟩, hst2, hg2, _⟩
  have hR2 := (hg2.block _ (Array.getElem?_eq_some_iff.1 HR1.out).1 (fun e => by injection e; omega)).trans HR1.out
  have hb2 : Below w.heap.size w w2 := Hb1.out.trans ⟨hg2.os, hg2.tape, hg2.output, hg2.size, fun i hi => hg2.block i (by have := Hb1.out.size; omega) (fun e => by injection e; omega)⟩
  have k0 := box_cells hR2 0
  have k1 := box_cells hR2 1
  have f0 := box_frozen hR2 0
  have f1 := box_frozen hR2 1
  simp only [List.getElem?_toArray, List.getElem?_cons_zero, List.getElem?_cons_succ] at k0 k1
  obtain ⟨q, hq⟩ : ∃ q, pay t l noneC = q := ⟨_, rfl⟩
  have hq' : chargeT t l = q := hq
  rw [hq] at ho2 ⊢
  have HQ := Lib.hid hq'
  have HR2 := Lib.hid hR2
  have Hb2 := Lib.hid hb2
  have Ho2 := Lib.hid ho2
  clear hR2 hb2 ho2 hst2 hg2 hq hq'
  go_wp2
  obtain ⟨z0, z1, z2, z3⟩ := bill_set (s := .slice A2 q.2.length k2) (p := .int .i64 q.1) HR2.out
  refine bodyPost_ret (v := .agg #[.slice A2 q.2.length k2, .int .i64 q.1]) (by simp [results, Try.results52, go_sem, z0, z1]) rfl ?_
  have hba : BillAt w2 (.agg #[.slice A2 q.2.length k2, .int .i64 q.1]) q := ⟨A2, k2, rfl, Ho2.out⟩
  exact ⟨_, rfl, by rw [HQ.out]; exact hba.kept z3 (fun cu fr e => by rw [HR2.out] at e; cases e), below_by Hb2.out (by omega) z3⟩
/-- What Tickets hands back. -/
def GivesTickets (t : Tar) (l : List Rd) (w : World) (e : Ending) (w' : World) : Prop :=
  Below w.heap.size w w' ∧ ((ridesF t l ≠ 0 → e = .returned (.tuple #[.slice none 0 0, .int .i64 0, .int .i64 (ridesF t l)])) ∧
    (ridesF t l = 0 → ∃ A k, e = .returned (.tuple #[.slice A (chargeT t (onceL l)).2.length k, .int .i64 (chargeT t (onceL l)).1, .int .i64 0]) ∧ w'.ownsRow 0 89 5 (.slice A (chargeT t (onceL l)).2.length k) (chargeT t (onceL l)).2.length ((chargeT t (onceL l)).2.flatMap tkC)))
theorem ridesF_ok {t : Tar} {l : List Rd} (h : ridesF t l = 0) : Rode t (onceL l) := by
  unfold ridesF at h
  split at h
  · split at h
    · cases h
    · split at h
      · rename_i h1 h2 h3
        exact ⟨h1, by omega, List.all_eq_true.1 h3⟩
      · cases h
  · cases h
set_option maxRecDepth 100000 in
set_option maxHeartbeats 2000000 in
theorem Tickets_any (t : Tar) (a b c v : Value) (l : List Rd) (w : World) (hT : TarAt w a b c t) (hv : RdsAt w v l) (hl : l.length ≤ 1000000) :
    Calls Try.prog 21 #[.agg #[.int .i64 t.zones, a, b, c, .int .i64 t.window], v] w (GivesTickets t l w) := by
  have hb0 : Below w.heap.size w (w.alloc (.cells #[.int .i64 t.zones, a, b, c, .int .i64 t.window] 32)) := (Below.refl _ _).alloc (Nat.le_refl _) _
  have Hc := Lib.hid (check_any t a b c v l (w.alloc (.cells #[.int .i64 t.zones, a, b, c, .int .i64 t.window] 32)) (hT.below hb0) (hv.below hb0) hl)
  have hg0 : (w.alloc (.cells #[.int .i64 t.zones, a, b, c, .int .i64 t.window] 32)).heap[w.heap.size]? = some (.cells #[.int .i64 t.zones, a, b, c, .int .i64 t.window] 32 (0, 0)) := heap_alloc_new w _
  have HG0 := Lib.hid hg0
  have HT := Lib.hid hT
  clear hg0 hv hT
  go_enter Try.func21, Try.ntmps21
  go_wp2_with fail
  refine Hc.out.mono ?_
  rintro e w1 ⟨hb1, hbad, hgood⟩
  have hw1 := hb0.trans (hb1.mono hb0.size)
  by_cases h0 : ridesF t l = 0
  · obtain ⟨A, k, rfl, hr⟩ := hgood h0
    have hg1 := (hb1.block w.heap.size (by simp)).trans HG0.out
    have gc := box_cells hg1
    have hrode := ridesF_ok h0
    have H0 := Lib.hid h0
    have Hch := Lib.hid (charge_any t a b c _ (onceL l) w1 hrode (HT.out.below hw1) hr)
    clear hbad hgood h0 hg1 hr hrode hb1
    generalize hO : onceL l = L at *
    have HO := Lib.hid hO
    clear hO
    go_wp2_with fail
    refine Hch.out.mono ?_
    rintro e w2 ⟨u, rfl, ⟨A2, k2, rfl, ho2⟩, hb2⟩
    obtain ⟨q, hq⟩ : ∃ q, chargeT t L = q := ⟨_, rfl⟩
    rw [hq] at ho2 ⊢
    have Hq := Lib.hid hq
    have hw2 := hw1.trans (hb2.mono hw1.size)
    clear hq hb2 gc
    go_upto_region 5 with (fail)
    refine wp_name (fun V => Below w2.heap.size w2 V ∧ V.heap[w2.heap.size]? = some (.cells #[.slice A2 q.2.length k2, .int .i64 q.1] 99 (0, 0))) ⟨(Below.refl _ _).alloc (Nat.le_refl _) _, heap_alloc_new w2 _⟩ (fun V hV => ?_)
    obtain ⟨hbV, hBV⟩ := hV
    have k0 := box_cells hBV 0
    have k1 := box_cells hBV 1
    simp only [List.getElem?_toArray, List.getElem?_cons_zero, List.getElem?_cons_succ] at k0 k1
    have hwV := hw2.trans (hbV.mono hw2.size)
    have hoV := own_below ho2 hbV
    have HwV := Lib.hid hwV
    have HoV := Lib.hid hoV
    clear hbV hBV hwV hoV ho2 hw2
    go_quiet (fail)
    go_wp2
    go_ret3
    refine ⟨drewN_below HwV.out _, fun h => absurd H0.out h, fun _ => ?_⟩
    rw [HO.out, Hq.out]
    exact ⟨A2, k2, rfl, HoV.out⟩
  · have hbb := hbad h0
    subst hbb
    have H0 := Lib.hid h0
    have hd : (ridesF t l != 0) = true := by simpa using h0
    clear hbad hgood h0
    generalize hF : ridesF t l = E at *
    have HF := Lib.hid hF
    clear hF
    go_wp2
    go_ret3
    refine ⟨hw1, fun _ => by rw [HF.out]; rfl, fun h => absurd (HF.out.symm.trans h) H0.out⟩
end Go.Proofs.Ytmbkpfkkohpnkaa
