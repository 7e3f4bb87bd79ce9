import Derived.Test.YtllobkhdeahgpaaGreatZn
import Derived.Test.YtllobkhdeahgpaaGreatZ9
set_option linter.unusedVariables false
set_option linter.unusedSimpArgs false
namespace Go.Proofs.YtllobkhdeahgpaaGreat
open Go Go.Proofs Go.RowKit

/-! ### The tables are truths -/
theorem truth_lows {d : DDay} (h : DayOk d) : truthB d.blocks (tabL d.blocks (loT d.blocks)) = true :=
  truth_of (fun b i _ _ => by have := rel_any h b i; omega) (fun b i _ hi => (rise_le h (by omega) hi).1)
theorem truth_highs {d : DDay} (h : DayOk d) : truthB d.blocks (tabL d.blocks (hiT d.blocks)) = true :=
  truth_of (fun b i _ _ => by have := rel_any h b i; omega) (fun b i _ hi => (rise_le h (by omega) hi).2)
theorem truth_str {d : DDay} (h : DayOk d) (b e : Nat) : truthB d.blocks (tabL d.blocks (strT d.blocks b e)) = true := by
  refine truth_of (fun c i _ _ => ?_) (fun c i _ hi => ?_)
  · have := rel_any h c i
    unfold strT
    split <;> omega
  · have h1 := rise_le h (b := c) (i := i) (j := i + 1) (by omega) hi
    have h2 := rel_any h c i
    have h3 := rel_any h c (i + 1)
    unfold strT
    split <;> split <;> omega
theorem truth_pre {d : DDay} (h : DayOk d) {b a : Nat} (hi : InDay d b a) : truthB d.blocks (tabL d.blocks (preT d.blocks b a)) = true := by
  refine truth_of (fun c i _ hc => ?_) (fun c i _ hc => ?_)
  · have h2 := rel_any h c i
    unfold preT
    split
    · rename_i e
      split
      · omega
      · have h3 := rise_le h (b := c) (i := a) (j := i) (by omega) hc
        have h4 := rel_any h c a
        omega
    · omega
  · have h1 := rise_le h (b := c) (i := i) (j := i + 1) (by omega) hc
    have h2 := rel_any h c i
    have h3 := rel_any h c (i + 1)
    unfold preT
    split
    · rename_i e
      by_cases e1 : i + 1 ≤ a
      · rw [if_pos (by omega), if_pos e1]; omega
      · rw [if_neg e1]
        by_cases e2 : i ≤ a
        · have : i = a := by omega
          subst this
          rw [if_pos (Nat.le_refl _)]; omega
        · rw [if_neg e2]; omega
    · omega
theorem truth_wor {d : DDay} (h : DayOk d) (ps : List Pc) : truthB d.blocks (tabL d.blocks (worT d.blocks ps)) = true := by
  refine truth_of (fun c i _ hc => ?_) (fun c i _ _ => ?_)
  · have h1 := wor_ge (d := d) ps c i
    have h2 := raise_ge h ps c i
    have h3 := wor_le h ps c i (M := hiT d.blocks c i) fun j hj => by
      have := raise_le h ps c j
      have := (rise_le h (b := c) hj hc).2
      omega
    omega
  · simp only [worT]
    omega
/-! ### worst -/
def raiB (bl : List (List Rel)) (f : Nat → Nat → Bool) : Nat → Nat → Int := fun c i => if f c i then hiT bl c i else loT bl c i
def hitP (p : Pc) (c i : Nat) : Bool := p.b == c && (decide (p.fr < i) && decide (i ≤ p.to))
def hitK (ps : List Pc) (k : Nat) : Nat → Nat → Bool := fun c i => (ps.take k).any fun p => hitP p c i
def hitI (ps : List Pc) (k : Nat) (p : Pc) (m : Nat) : Nat → Nat → Bool := fun c i => hitK ps k c i || (p.b == c && (decide (p.fr < i) && decide (i < m)))
theorem raiB_congr {bl : List (List Rel)} {f g : Nat → Nat → Bool} (h : ∀ c i, f c i = g c i) : tabL bl (raiB bl f) = tabL bl (raiB bl g) := tabL_congr fun c i _ _ => by unfold raiB; rw [h]
theorem hitI_start (ps : List Pc) (k : Nat) (p : Pc) (c i : Nat) : hitI ps k p (p.fr + 1) c i = hitK ps k c i := by
  unfold hitI
  have : (decide (p.fr < i) && decide (i < p.fr + 1)) = false := by
    rw [Bool.and_eq_false_iff]
    by_cases h : p.fr < i
    · right; simp; omega
    · left; simpa using h
  rw [this, Bool.and_false, Bool.or_false]
theorem hitI_end {ps : List Pc} {k : Nat} {p : Pc} (hp : ps[k]? = some p) (c i : Nat) : hitI ps k p (p.to + 1) c i = hitK ps (k + 1) c i := by
  unfold hitI hitK
  rw [List.take_add_one, hp, List.any_append]
  have : decide (i < p.to + 1) = decide (i ≤ p.to) := by simp; omega
  rw [this]
  simp [hitP]
theorem hitI_step {bl : List (List Rel)} (ps : List Pc) (k : Nat) (p : Pc) {m : Nat} (hm : p.fr < m) : tabL bl (updT (raiB bl (hitI ps k p m)) p.b m (hiT bl p.b m)) = tabL bl (raiB bl (hitI ps k p (m + 1))) := by
  refine tabL_congr fun c i _ _ => ?_
  unfold updT raiB
  by_cases h1 : c = p.b ∧ i = m
  · obtain ⟨rfl, rfl⟩ := h1
    rw [if_pos ⟨rfl, rfl⟩, if_pos]
    unfold hitI
    simp [hm]
  · rw [if_neg h1]
    have : hitI ps k p (m + 1) c i = hitI ps k p m c i := by
      unfold hitI
      by_cases hc : p.b = c
      · have hi : i ≠ m := fun e => h1 ⟨hc.symm, e⟩
        have : decide (i < m + 1) = decide (i < m) := by simp; omega
        rw [this]
      · have : (p.b == c) = false := by simpa using hc
        rw [this, Bool.false_and, Bool.false_and]
    rw [this]
theorem rai_all {bl : List (List Rel)} (ps : List Pc) : raiB bl (hitK ps ps.length) = raiseT bl ps := by
  funext c i
  unfold raiB hitK raiseT
  rw [List.take_length]
  rfl
theorem rai_zero (bl : List (List Rel)) (ps : List Pc) : raiB bl (hitK ps 0) = loT bl := by
  funext c i
  unfold raiB hitK
  simp
def worA (bl : List (List Rel)) (ps : List Pc) (b : Nat) : Nat → Nat → Int := fun c i => if c < b then worT bl ps c i else raiseT bl ps c i
def worK (bl : List (List Rel)) (ps : List Pc) (b m : Nat) : Nat → Nat → Int := fun c i => if c < b ∨ (c = b ∧ i < m) then worT bl ps c i else raiseT bl ps c i
theorem worK_start (bl : List (List Rel)) (ps : List Pc) (b : Nat) : worK bl ps b 1 = worA bl ps b := by
  funext c i
  unfold worK worA
  by_cases h : c < b
  · rw [if_pos (.inl h), if_pos h]
  · rw [if_neg h]
    by_cases h2 : c = b ∧ i < 1
    · obtain ⟨h3, h4⟩ := h2
      have : i = 0 := by omega
      subst this
      rw [if_pos (.inr ⟨h3, h4⟩)]
      rfl
    · rw [if_neg (by omega)]
theorem worK_end {bl : List (List Rel)} (ps : List Pc) {b m : Nat} (h : m = (bl[b]?.getD []).length) : tabL bl (worK bl ps b m) = tabL bl (worA bl ps (b + 1)) := tabL_congr fun c i hc hi => by
  unfold worK worA
  by_cases h1 : c < b
  · rw [if_pos (.inl h1), if_pos (by omega)]
  · by_cases h2 : c = b
    · rw [if_pos (.inr ⟨h2, by rw [h, ← h2]; exact hi⟩), if_pos (by omega)]
    · rw [if_neg (by omega), if_neg (by omega)]
theorem worK_step {bl : List (List Rel)} (ps : List Pc) (b m : Nat) : tabL bl (updT (worK bl ps b (m + 1)) b (m + 1) (max (raiseT bl ps b (m + 1)) (worT bl ps b m))) = tabL bl (worK bl ps b (m + 2)) := by
  refine tabL_congr fun c i _ _ => ?_
  unfold updT worK
  by_cases h1 : c = b ∧ i = m + 1
  · obtain ⟨rfl, rfl⟩ := h1
    rw [if_pos ⟨rfl, rfl⟩, if_pos (.inr ⟨rfl, by omega⟩)]
    rfl
  · rw [if_neg h1]
    by_cases h2 : c < b ∨ (c = b ∧ i < m + 1)
    · rw [if_pos h2, if_pos (by omega)]
    · rw [if_neg h2, if_neg (by omega)]
theorem worA_zero (bl : List (List Rel)) (ps : List Pc) : worA bl ps 0 = raiseT bl ps := by
  funext c i
  unfold worA
  rw [if_neg (by omega)]
theorem worA_all {bl : List (List Rel)} (ps : List Pc) {n : Nat} (h : n = bl.length) : tabL bl (worA bl ps n) = tabL bl (worT bl ps) := tabL_congr fun c i hc _ => by
  unfold worA
  rw [if_pos (by omega)]
set_option maxRecDepth 100000 in
set_option maxHeartbeats 8000000 in
theorem worstR_any (d : DDay) (u z v : Value) (l : List Nat) (w : World) (hda : DayAt w u z d) (hd : DayOk d) (hv : NumsAt .i64 w v (natsI l)) (hl : IsDuty d l) :
    Calls Tryz.prog 78 #[.agg #[.int .i64 d.law.piece, .int .i64 d.law.drive, .int .i64 d.law.spread, .int .i64 d.law.brk, .int .i64 d.law.on, .int .i64 d.law.off, .int .i64 d.law.least, .int .i64 d.law.pieces, u, z], v] w (GivesTab w (tabL d.blocks (worT d.blocks (piecesL d l)))) := by
  obtain ⟨A1, c1, rfl, _, _⟩ := hda.blocks.form
  obtain ⟨A2, c2, rfl, _, _⟩ := hda.walk.form
  have hm := day_mild hd
  have Hda := Lib.hid hda
  have Hd := Lib.hid hd
  have Hm := Lib.hid hm
  have Hv := Lib.hid hv
  have Hdl := Lib.hid hl
  have hn0 : 0 < d.blocks.length := by
    obtain ⟨s, hs⟩ := List.exists_mem_of_ne_nil _ hl.some
    have := hl.lt s hs
    cases hbl : d.blocks with
    | nil => rw [hbl] at this; simp [segN] at this
    | cons x y => simp
  clear hda hd hm hv hl
  go_enter Tryz.func78, Tryz.ntmps78
  go_upto_region 1 with (fail)
  refine wp_name (fun W => Below w.heap.size w W ∧ W.heap[w.heap.size]? = some (.cells #[.int .i64 d.law.piece, .int .i64 d.law.drive, .int .i64 d.law.spread, .int .i64 d.law.brk, .int .i64 d.law.on, .int .i64 d.law.off, .int .i64 d.law.least, .int .i64 d.law.pieces, .slice A1 d.blocks.length c1, .slice A2 d.walk.length c2] 27 (0, 0))) ⟨(Below.refl _ _).alloc (Nat.le_refl _) _, heap_alloc_new w _⟩ (fun W0 hW => ?_)
  obtain ⟨hb0, hx0⟩ := hW
  have HB0 := Lib.hid hb0
  have HX0 := Lib.hid hx0
  clear hb0 hx0
  have gc := box_cells HX0.out
  go_wp2_with fail
  refine (Lows_apart d _ _ _ (Hda.out.below HB0.out) Hm.out).mono ?_
  rintro e1 w1 ⟨A, c, us, rfl, ho, hr, ha, hb1⟩
  have hle : (lowsL d.blocks).length = d.blocks.length := by simp [lowsL]
  have ht0 : TabOwn w1 W0.heap.size (.slice A d.blocks.length c) (tabL d.blocks (loT d.blocks)) := by
    rw [← lows_tab, ← hle]
    exact ⟨us, ho, hr, ha⟩
  rw [hle]
  obtain ⟨g, rfl⟩ : ∃ g, A = some ⟨g, 0, none⟩ := by
    rcases ho.2 with ⟨_, h0⟩ | ⟨g, cap, cur, e9, _⟩
    · omega
    · cases e9; exact ⟨g, rfl⟩
  have Ht0 := Lib.hid ht0
  have Hb1 := Lib.hid hb1
  clear ho hr ha hb1 hle ht0 gc
  have hxr := (Hb1.out.block _ (Array.getElem?_eq_some_iff.1 HX0.out).1).trans HX0.out
  have gc := box_cells hxr
  have hbw1 := HB0.out.trans (Hb1.out.mono HB0.out.size)
  go_wp2_with fail
  refine (Pieces_any d _ _ _ l _ (Hda.out.below hbw1) Hd.out (Hv.out.below hbw1) Hdl.out).mono ?_
  rintro e1 w2 ⟨pA, pc, rfl, hpo, hb2⟩
  obtain ⟨ps, hps⟩ : ∃ ps, piecesL d l = ps := ⟨_, rfl⟩
  have hpok : ∀ p ∈ ps, p.b < d.blocks.length ∧ p.fr < p.to ∧ p.to < (d.blocks[p.b]?.getD []).length := fun p hp => by
    obtain ⟨m1, m2, m3, m4⟩ := (raw_ok l Hdl.out.rise Hdl.out.lt).ok p (pieces_mem.1 (by rw [hps]; exact hp))
    exact ⟨m1, m2, m3⟩
  rw [hps] at hpo
  have Hps := Lib.hid hps
  rw [hps]
  have hp10 := (duty_pcs Hd.out Hdl.out).1
  rw [hps] at hp10
  obtain ⟨P, hP⟩ : ∃ P, ps.length = P := ⟨_, rfl⟩
  rw [hP] at hp10
  rw [hP] at hpo ⊢
  have HP := Lib.hid hP
  have Hpo := Lib.hid hpo
  have Hpok := Lib.hid hpok
  have Hb2 := Lib.hid hb2
  have Ht2 := Lib.hid (Ht0.out.below hb2)
  have HbW := Lib.hid (Hb1.out.trans (hb2.mono Hb1.out.size))
  clear hpo hpok hb2 hP hps gc hxr hbw1
  go_wp2
  go_loopw [7] (fun s wr => ∃ k : Nat, k ≤ P ∧ s = .int .i64 (k : Int) ∧ wr.ownsRow w1.heap.size 125 4 (.slice pA P pc) P (prCells ps) ∧ Below W0.heap.size W0 wr ∧ TabOwn wr W0.heap.size (.slice (some ⟨g, 0, none⟩) d.blocks.length c) (tabL d.blocks (raiB d.blocks (hitK ps k)))) (fun s wr => P - (intOf s).toNat)
  case atStart => exact ⟨0, by omega, rfl, Hpo.out, HbW.out, by rw [rai_zero]; exact Ht2.out⟩
  case round =>
    obtain ⟨k, hk, rfl, hbp, hbr, htb⟩ := hrel
    by_cases hlt : k < P
    · have kI : (k : Int) < (P : Int) := by omega
      obtain ⟨bp, op, p, ea, hp, q0, q1, q2, q3, _⟩ := (pcs_of_own hbp).at_ (k := k) (by rw [HP.out]; exact hlt)
      subst ea
      obtain ⟨pk1, pk2, pk3⟩ := Hpok.out p (List.mem_of_getElem? hp)
      obtain ⟨N, hN⟩ : ∃ N, (d.blocks[p.b]?.getD []).length = N := ⟨_, rfl⟩
      have hll : N ≤ 1000 := by
        rw [← hN, List.getElem?_eq_getElem pk1]
        exact Hm.out.block p.b _ (List.getElem?_eq_getElem pk1)
      rw [hN] at pk3
      have Hpb := Lib.hid (And.intro pk1 hN)
      have hbI : (p.b : Int) < (d.blocks.length : Int) := by omega
      have iw : IntKind.i64.wrap ((p.fr : Int) + 1) = ((p.fr + 1 : Nat) : Int) := by rw [IntWalk.i64_in _ (by omega)]; rfl
      have Hpp := Lib.hid hp
      have Hend := Lib.hid (raiB_congr (bl := d.blocks) (hitI_end hp))
      have Hstart := Lib.hid (raiB_congr (bl := d.blocks) (hitI_start ps k p))
      have Hbp := Lib.hid hbp
      have Hbr := Lib.hid hbr
      have Htb := Lib.hid htb
      have Q0 := Lib.hid q0
      have Q2 := Lib.hid q2
      obtain ⟨W3, hW3⟩ : ∃ W3, wr = W3 := ⟨_, rfl⟩
      rw [hW3] at Hbp Hbr Htb Q0 Q2 q0 q1 q2 q3 ⊢
      clear hp hN hbp hbr htb hW3
      go_wp2
      clear q0 q1 q2 q3
      go_loopw [8] (fun s wr => ∃ m : Nat, p.fr + 1 ≤ m ∧ m ≤ p.to + 1 ∧ s = .int .i64 (m : Int) ∧ wr.ownsRow w1.heap.size 125 4 (.slice (some ⟨bp, op, none⟩) P pc) P (prCells ps) ∧ Below W0.heap.size W0 wr ∧ TabOwn wr W0.heap.size (.slice (some ⟨g, 0, none⟩) d.blocks.length c) (tabL d.blocks (raiB d.blocks (hitI ps k p m)))) (fun s wr => p.to + 1 - (intOf s).toNat)
      case atStart => exact ⟨p.fr + 1, by omega, by omega, by simp, Hbp.out, Hbr.out, by rw [Hstart.out]; exact Htb.out⟩
      case round =>
        obtain ⟨m, hm1, hm2, rfl, hbp, hbr, htb⟩ := hrel
        have Htb := Lib.hid htb
        obtain ⟨bp1, op1, p1, ea, hp1, q0, q1, q2, q3, _⟩ := (pcs_of_own hbp).at_ (k := k) (by rw [HP.out]; exact hlt)
        cases ea
        have hpe : p = p1 := by
          have h1 := (Hpp.out).symm.trans hp1
          injection h1
        subst hpe
        clear hp1
        by_cases hlm : m ≤ p.to
        · have mI : (m : Int) ≤ (p.to : Int) := by omega
          have mN : (m : Int) < (N : Int) := by omega
          obtain ⟨g1, c3, gr, cr, ev, hcell, hrow, hfz, hgr, htyp, hset⟩ := htb.at_ (tabL_get (raiB d.blocks (hitI ps k p m)) Hpb.out.1) (by simp only [List.length_map, List.length_range]; rw [Hpb.out.2]; omega)
          rw [tabL_len] at ev
          cases ev
          simp only [List.length_map, List.length_range] at hcell
          rw [Hpb.out.2] at hcell
          have hset2 : ∀ j x, TabOwn (wr.setCell ⟨gr, j, none⟩ (.int .i64 x)) W0.heap.size (.slice (some ⟨g, 0, none⟩) d.blocks.length c) (tabL d.blocks (updT (raiB d.blocks (hitI ps k p m)) p.b j x)) := fun j x => by
            have h := hset j x
            rw [tabL_set (raiB d.blocks (hitI ps k p m)) j x Hpb.out.1] at h
            exact h
          have hrow2 : ∀ j, j < N → wr.cell? ⟨gr, j, none⟩ = some (.int .i64 ((raiB d.blocks (hitI ps k p m)) p.b j)) := fun j hj => by
            refine hrow j _ ?_
            rw [List.getElem?_map, List.getElem?_range (by rw [Hpb.out.2]; exact hj)]
            rfl
          have Hset := Lib.hid hset2
          have Hrow := Lib.hid hrow2
          have Hfz := Lib.hid hfz
          have Hcell := Lib.hid hcell
          clear hset hset2 hrow hrow2 hfz htb
          have hbw := HB0.out.trans (hbr.mono HB0.out.size)
          have hxr := (hbr.block _ (Array.getElem?_eq_some_iff.1 HX0.out).1).trans HX0.out
          obtain ⟨b2, o2, l2, u2, ea, hl2, c0, hrl, _⟩ := (Hda.out.blocks.below hbw).at_ (k := p.b) Hpb.out.1
          cases ea
          have hgl2 : d.blocks[p.b]?.getD [] = l2 := by rw [hl2]; rfl
          have hN2 : l2.length = N := by rw [← hgl2]; exact Hpb.out.2
          obtain ⟨A3, c4, rfl, _, _⟩ := hrl.form
          obtain ⟨b3, o3, r, ea, hr3, r0, r1, r2, _⟩ := hrl.at_ (k := m) (by omega)
          subst ea
          have hhi : hiT d.blocks p.b m = r.hi := by unfold hiT relAt; rw [hgl2, hr3]; rfl
          rw [hN2] at c0
          have Hhi := Lib.hid hhi
          have gx := box_cells hxr 8
          clear hr3 hrl hhi hxr hl2 hgl2
          have Hst := Lib.hid (hitI_step (bl := d.blocks) ps k p (m := m) (by omega))
          go_upto_region 9 with (fail)
          refine wp_region_noPanic ?_
          refine wp_region_pickX [0, 1, 2, 3, 4, 5, 6, 7, 8, 9, 10, 11, 12, 13, 14, 15, 16, 17, 18, 19, 20, 21, 22] [23, 24] (fun i => !(i == 24)) (fun w' => Below wr.heap.size wr w') (by kernel_rfl) (by kernel_rfl) (fun _ _ _ _ _ h => h) (Below.refl _ _).drew (fun hne => ?_)
          have n0 := fun q : Meets (fun w' => Below wr.heap.size wr w') => cell_below q.property hcell
          have n1 := fun q : Meets (fun w' => Below wr.heap.size wr w') => cell_below q.property gx
          have n2 := fun q : Meets (fun w' => Below wr.heap.size wr w') => cell_below q.property c0
          have n3 := fun q : Meets (fun w' => Below wr.heap.size wr w') => cell_below q.property r0
          have n4 := fun q : Meets (fun w' => Below wr.heap.size wr w') => cell_below q.property r1
          have n5 := fun q : Meets (fun w' => Below wr.heap.size wr w') => cell_below q.property r2
          have n6 := fun q : Meets (fun w' => Below wr.heap.size wr w') => cell_below q.property q0
          simp only [pick, pickN, List.filterMap_cons, List.filterMap_nil, List.getElem?_cons_zero, List.getElem?_cons_succ, Option.map_some]
          repeat (change wpQuiet _ _ _ _ (_ :: _) _; go_big_quiet_step (fail))
          refine wpQuiet_nil ?_
          clear n0 n1 n2 n3 n4 n5 n6 hne
          have hB0 : Below wr.heap.size wr wr.drew := (Below.refl _ _).drew
          have d0 := cell_below hB0 (Hrow.out m (by omega))
          have hgrl : gr < wr.heap.size := World.block_lt_of_cell? _ _ (Hrow.out m (by omega))
          have fz : ∀ o, wr.drew.frozen? ⟨gr, o, none⟩ = false := fun o => (hB0.frozen (p := ⟨gr, o, none⟩) hgrl).trans (Hfz.out o)
          refine wpSeqP_step (fun K hK => ?_)
          go_simp
          refine hK.out _ _ (fun _ => hB0) ?_
          clear hK K
          refine wpSeqP_step (fun K hK => ?_)
          go_simp
          refine hK.out _ _ (fun h => by cases h) ?_
          clear hK K d0 fz
          refine wpSeqP_nil ?_
          refine NoPanic.normal ?_
          have Hb3 := Lib.hid (hbr.drew.setCell (p := ⟨gr, m, none⟩) hgr (.int .i64 r.hi))
          obtain ⟨cur, hcur⟩ := htyp
          have Hb4 := Lib.hid (own_other (own_below hbp (Below.refl _ _).drew) (show wr.drew.heap[gr]? = _ from hcur) (by decide) (j := m) (x := .int .i64 r.hi))
          have ht2 : TabOwn (wr.drew.setCell ⟨gr, m, none⟩ (.int .i64 r.hi)) W0.heap.size (.slice (some ⟨g, 0, none⟩) d.blocks.length c) (tabL d.blocks (raiB d.blocks (hitI ps k p (m + 1)))) := by
            rw [← Hst.out, Hhi.out]
            exact tab_drew (Hset.out m r.hi)
          go_wp2
          go_roundw
          case rel => exact ⟨m + 1, by omega, by omega, by go_num, Hb4.out, Hb3.out, ht2⟩
          case measure => simp [intOf]; omega
        · have mI : ¬ (m : Int) ≤ (p.to : Int) := by omega
          have hme : m = p.to + 1 := by omega
          subst hme
          have ht3 := Htb.out
          rw [Hend.out] at ht3
          have Ht3 := Lib.hid ht3
          have Hbp3 := Lib.hid hbp
          have Hbr3 := Lib.hid hbr
          clear ht3 hbp hbr htb Htb
          go_wp2
          go_roundw
          case rel => exact ⟨k + 1, by omega, by go_num, Hbp3.out, Hbr3.out, Ht3.out⟩
          case measure => simp [intOf]; omega
    · have kI : ¬ (k : Int) < (P : Int) := by omega
      have hke : k = P := by omega
      have ht3 := htb
      rw [hke, ← HP.out, rai_all, ← worA_zero] at ht3
      have Ht3 := Lib.hid ht3
      have Hbr3 := Lib.hid hbr
      obtain ⟨W3, hW3⟩ : ∃ W3, wr = W3 := ⟨_, rfl⟩
      rw [hW3] at Hbr3 Ht3 ⊢
      clear ht3 hbp hbr htb hW3
      go_wp2
      go_loopw [9] (fun s wr => ∃ b : Nat, b ≤ d.blocks.length ∧ s = .int .i64 (b : Int) ∧ Below W0.heap.size W0 wr ∧ TabOwn wr W0.heap.size (.slice (some ⟨g, 0, none⟩) d.blocks.length c) (tabL d.blocks (worA d.blocks ps b))) (fun s wr => d.blocks.length - (intOf s).toNat)
      case atStart => exact ⟨0, by omega, rfl, Hbr3.out, Ht3.out⟩
      case round =>
        obtain ⟨b, hb, rfl, hbr, htb⟩ := hrel
        by_cases hlb : b < d.blocks.length
        · have hbI : (b : Int) < (d.blocks.length : Int) := by omega
          obtain ⟨N, hN⟩ : ∃ N, (d.blocks[b]?.getD []).length = N := ⟨_, rfl⟩
          have hl1 := List.getElem?_eq_getElem hlb
          have hll : N ≤ 1000 := by rw [← hN, hl1]; exact Hm.out.block b _ hl1
          have hN2 : 2 ≤ N := by rw [← hN, hl1]; exact Hd.out.two b _ hl1
          have Hbb := Lib.hid (And.intro hlb hN)
          have Hbr := Lib.hid hbr
          have htb2 := htb
          rw [← worK_start] at htb2
          have Htb := Lib.hid htb2
          obtain ⟨W4, hW4⟩ : ∃ W4, wr = W4 := ⟨_, rfl⟩
          rw [hW4] at Hbr Htb ⊢
          clear hl1 hN htb htb2 hbr hW4
          go_wp2
          go_loopw [10] (fun s wr => ∃ m : Nat, 1 ≤ m ∧ m ≤ N ∧ s = .int .i64 (m : Int) ∧ Below W0.heap.size W0 wr ∧ TabOwn wr W0.heap.size (.slice (some ⟨g, 0, none⟩) d.blocks.length c) (tabL d.blocks (worK d.blocks ps b m))) (fun s wr => N - (intOf s).toNat)
          case atStart => exact ⟨1, by omega, by omega, rfl, Hbr.out, Htb.out⟩
          case round =>
            obtain ⟨m, hm1, hm2, rfl, hbr, htb⟩ := hrel
            have Htb := Lib.hid htb
            obtain ⟨g1, c3, gr, cr, ev, hcell, hrow, hfz, hgr, htyp, hset⟩ := htb.at_ (tabL_get (worK d.blocks ps b m) Hbb.out.1) (by simp only [List.length_map, List.length_range]; rw [Hbb.out.2]; omega)
            rw [tabL_len] at ev
            cases ev
            simp only [List.length_map, List.length_range] at hcell
            rw [Hbb.out.2] at hcell
            have hset2 : ∀ j x, TabOwn (wr.setCell ⟨gr, j, none⟩ (.int .i64 x)) W0.heap.size (.slice (some ⟨g, 0, none⟩) d.blocks.length c) (tabL d.blocks (updT (worK d.blocks ps b m) b j x)) := fun j x => by
              have h := hset j x
              rw [tabL_set (worK d.blocks ps b m) j x Hbb.out.1] at h
              exact h
            have hrow2 : ∀ j, j < N → wr.cell? ⟨gr, j, none⟩ = some (.int .i64 ((worK d.blocks ps b m) b j)) := fun j hj => by
              refine hrow j _ ?_
              rw [List.getElem?_map, List.getElem?_range (by rw [Hbb.out.2]; exact hj)]
              rfl
            have Hset := Lib.hid hset2
            have Hrow := Lib.hid hrow2
            have Hfz := Lib.hid hfz
            have Hcell := Lib.hid hcell
            clear hset hset2 hrow hrow2 hfz htb
            by_cases hlm : m < N
            · have mN : (m : Int) < (N : Int) := by omega
              obtain ⟨q, rfl⟩ : ∃ q, m = q + 1 := ⟨m - 1, by omega⟩
              have iw : IntKind.i64.wrap (((q + 1 : Nat) : Int) - 1) = (q : Int) := by rw [IntWalk.i64_in _ (by omega)]; omega
              have qN : (q : Int) < (N : Int) := by omega
              have ra := Hrow.out (q + 1) hlm
              have rb := Hrow.out q (by omega)
              rw [show worK d.blocks ps b (q + 1) b (q + 1) = raiseT d.blocks ps b (q + 1) by unfold worK; rw [if_neg (by omega)]] at ra
              rw [show worK d.blocks ps b (q + 1) b q = worT d.blocks ps b q by unfold worK; rw [if_pos (.inr ⟨rfl, by omega⟩)]] at rb
              have Hst := Lib.hid (worK_step (bl := d.blocks) ps b q)
              generalize raiseT d.blocks ps b (q + 1) = ya at *
              generalize worT d.blocks ps b q = yb at *
              obtain ⟨mm, hmm⟩ : ∃ mm, q + 1 = mm := ⟨_, rfl⟩
              rw [hmm] at mN iw ra hlm Hst ⊢
              have hq2 : q + 2 = mm + 1 := by omega
              rw [hq2] at Hst
              go_upto_region 16 with (fail)
              refine wp_region_noPanic ?_
              refine wp_region_pickX [0, 1, 2, 3, 4, 5, 6, 7, 8, 9, 10, 11, 12, 13, 14, 15, 16, 17, 18, 19] [20, 21, 22] (fun i => !(i == 22)) (fun w' => Below wr.heap.size wr w') (by kernel_rfl) (by kernel_rfl) (fun _ _ _ _ _ h => h) (Below.refl _ _).drew (fun hne => ?_)
              have n0 := fun q : Meets (fun w' => Below wr.heap.size wr w') => cell_below q.property hcell
              have n1 := fun q : Meets (fun w' => Below wr.heap.size wr w') => cell_below q.property ra
              have n2 := fun q : Meets (fun w' => Below wr.heap.size wr w') => cell_below q.property rb
              simp only [pick, pickN, List.filterMap_cons, List.filterMap_nil, List.getElem?_cons_zero, List.getElem?_cons_succ, Option.map_some]
              repeat (change wpQuiet _ _ _ _ (_ :: _) _; go_big_quiet_step (fail))
              refine wpQuiet_nil ?_
              clear n0 n1 n2 hne
              have hB0 : Below wr.heap.size wr wr.drew := (Below.refl _ _).drew
              have d0 := cell_below hB0 (Hrow.out mm (by omega))
              have hgrl : gr < wr.heap.size := World.block_lt_of_cell? _ _ (Hrow.out mm (by omega))
              have fz : ∀ o, wr.drew.frozen? ⟨gr, o, none⟩ = false := fun o => (hB0.frozen (p := ⟨gr, o, none⟩) hgrl).trans (Hfz.out o)
              refine wpSeqP_step (fun K hK => ?_)
              go_simp
              refine hK.out _ _ (fun _ => hB0) ?_
              clear hK K
              refine wpSeqP_step (fun K hK => ?_)
              go_simp
              refine hK.out _ _ (fun _ => hB0) ?_
              clear hK K
              refine wpSeqP_step (fun K hK => ?_)
              go_simp
              refine hK.out _ _ (fun h => by cases h) ?_
              clear hK K d0 fz
              refine wpSeqP_nil ?_
              refine NoPanic.normal ?_
              have Hb3 := Lib.hid (hbr.drew.setCell (p := ⟨gr, mm, none⟩) hgr (.int .i64 (max ya yb)))
              have ht2 : TabOwn (wr.drew.setCell ⟨gr, mm, none⟩ (.int .i64 (max ya yb))) W0.heap.size (.slice (some ⟨g, 0, none⟩) d.blocks.length c) (tabL d.blocks (worK d.blocks ps b (mm + 1))) := by
                rw [← Hst.out, ← hmm]
                exact tab_drew (Hset.out (q + 1) (max ya yb))
              clear ra rb
              go_wp2
              go_roundw
              case rel => exact ⟨mm + 1, by omega, by omega, by go_num, Hb3.out, ht2⟩
              case measure => simp [intOf]; omega
            · have mN : ¬ (m : Int) < (N : Int) := by omega
              have hmN : m = (d.blocks[b]?.getD []).length := by rw [Hbb.out.2]; omega
              have ht4 := Htb.out
              rw [worK_end ps hmN] at ht4
              have Ht4 := Lib.hid ht4
              have Hbr4 := Lib.hid hbr
              clear ht4 hbr hmN
              go_wp2
              go_roundw
              case rel => exact ⟨b + 1, by omega, by go_num, Hbr4.out, Ht4.out⟩
              case measure => simp [intOf]; omega
        · have hbI : ¬ (b : Int) < (d.blocks.length : Int) := by omega
          have hbe : b = d.blocks.length := by omega
          have ht4 := htb
          rw [worA_all ps hbe] at ht4
          have Ht4 := Lib.hid ht4
          have Hbr4 := Lib.hid hbr
          clear ht4 hbr htb
          go_wp2
          go_ret
          rw [Hps.out]
          exact TabOwn.gives Ht4.out (by rw [tabL_len]) HB0.out.size (HB0.out.trans (Hbr4.out.mono HB0.out.size))
end Go.Proofs.YtllobkhdeahgpaaGreat
