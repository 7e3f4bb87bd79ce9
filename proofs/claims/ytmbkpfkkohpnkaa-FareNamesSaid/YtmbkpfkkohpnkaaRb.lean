import Derived.Test.YtmbkpfkkohpnkaaAw
import Derived.Test.YtmbkpfkkohpnkaaRa
set_option linter.unusedVariables false
set_option linter.unusedSimpArgs false
namespace Go.Proofs.Ytmbkpfkkohpnkaa
open Go Go.Proofs Go.RowKit

/-! ### The reference: once, the error of rides -/
theorem rideR_fields : (Try.prog.fieldsOf 68).toList.map (fun f => (f.name, f.type, f.offset)) = [("Day", 3, 0), ("Minute", 3, 1), ("Low", 3, 2), ("High", 3, 3)] := by kernel_rfl
theorem rideR_under : Try.prog.underlying 68 = some (.struct (Try.prog.fieldsOf 68)) := by kernel_rfl
theorem rideR_held : Try.prog.stoodInHeld 68 = false := by kernel_rfl
theorem rideR_guard (w : World) (x y : Operand) (xs ys : Array Value) : (eqGuard .eql 68 x y (.agg xs) (.agg ys)).run Try.prog w = .ok () w := run_eqGuard_agg w _ _ _ _ _ _ (by kernel_rfl)
theorem rideR_guardN (w : World) (x y : Operand) (xs ys : Array Value) : (eqGuard .neq 68 x y (.agg xs) (.agg ys)).run Try.prog w = .ok () w := run_eqGuard_agg w _ _ _ _ _ _ (by kernel_rfl)
theorem rideR_equal (w : World) (r s : Rd) : (Op.equal 68 (.agg #[.int .i64 r.day, .int .i64 r.minute, .int .i64 r.low, .int .i64 r.high]) (.agg #[.int .i64 s.day, .int .i64 s.minute, .int .i64 s.low, .int .i64 s.high])).run Try.prog w = .ok (decide (r = s)) w := by
  unfold Op.equal Op.maxDepth
  rw [run_equalIn_agg w 9999 _ _ _ rideR_under rideR_held]
  have hf := rideR_fields
  match h : (Try.prog.fieldsOf 68).toList with
  | [f, g, k, m] =>
    rw [h] at hf
    simp only [List.map_cons, List.map_nil, List.cons.injEq, Prod.mk.injEq, and_true] at hf
    obtain ⟨⟨n1, t1, o1⟩, ⟨n2, t2, o2⟩, ⟨n3, t3, o3⟩, n4, t4, o4⟩ := hf
    simp only [Op.eqFields, n1, n2, n3, n4, t1, t2, t3, t4, o1, o2, o3, o4]
    have e : decide (r = s) = (decide (r.day = s.day) && (decide (r.minute = s.minute) && (decide (r.low = s.low) && decide (r.high = s.high)))) := by
      cases r
      cases s
      simp
    rw [e]
    simp [go_sem]
    by_cases h1 : r.day = s.day
    · by_cases h2 : r.minute = s.minute
      · by_cases h3 : r.low = s.low
        · by_cases h4 : r.high = s.high
          · simp [h1, h2, h3, h4]
          · simp [h1, h2, h3, h4]
        · simp [h1, h2, h3]
      · simp [h1, h2]
    · simp [h1]
  | [] => rw [h] at hf; simp at hf
  | [f] => rw [h] at hf; simp at hf
  | [f, g] => rw [h] at hf; simp at hf
  | [f, g, k] => rw [h] at hf; simp at hf
  | f :: g :: k :: m :: n :: r => rw [h] at hf; simp at hf
theorem rideR_eql (w : World) (r s : Rd) : (binOp .eql 68 (.agg #[.int .i64 r.day, .int .i64 r.minute, .int .i64 r.low, .int .i64 r.high]) (.agg #[.int .i64 s.day, .int .i64 s.minute, .int .i64 s.low, .int .i64 s.high])).run Try.prog w = .ok (.bool (decide (r = s))) w := by
  simp only [binOp, Sem.run_bind, rideR_equal, Result.andThen_ok, Sem.run_pure]
theorem info_rdsR : (Try.prog.info? 68).map (fun i => (i.zero, i.size, i.bytes)) = some (some (.agg #[.int .i64 0, .int .i64 0, .int .i64 0, .int .i64 0]), 4, 32) := by kernel_rfl
def addU (o : List Rd) (r : Rd) : List Rd := if (o.any fun s => decide (s = r)) = true then o else o ++ [r]
def uniqL (l : List Rd) : List Rd := l.foldl addU []
theorem uniq_take {l : List Rd} {k : Nat} {r : Rd} (h : l[k]? = some r) : uniqL (l.take (k + 1)) = addU (uniqL (l.take k)) r := by
  unfold uniqL
  rw [List.take_add_one, h, List.foldl_append]
  rfl
theorem addU_mem {o : List Rd} {r x : Rd} : x ∈ addU o r ↔ x ∈ o ∨ x = r := by
  unfold addU
  by_cases h : (o.any fun s => decide (s = r)) = true
  · rw [if_pos h]
    obtain ⟨s, hs, e⟩ := List.any_eq_true.1 h
    have e := of_decide_eq_true e
    subst e
    constructor
    · exact .inl
    · rintro (h | rfl)
      · exact h
      · exact hs
  · rw [if_neg h]
    simp
theorem foldl_addU : ∀ (l o : List Rd), (∀ x, x ∈ l.foldl addU o ↔ x ∈ o ∨ x ∈ l) ∧ (o.Nodup → (l.foldl addU o).Nodup) ∧ (l.foldl addU o).length ≤ o.length + l.length
  | [], o => by simp
  | r :: l, o => by
    obtain ⟨h1, h2, h3⟩ := foldl_addU l (addU o r)
    refine ⟨fun x => ?_, fun h => h2 ?_, ?_⟩
    · rw [List.foldl_cons, h1, addU_mem, List.mem_cons, or_assoc]
    · unfold addU
      by_cases h' : (o.any fun s => decide (s = r)) = true
      · rw [if_pos h']; exact h
      · rw [if_neg h']
        rw [List.nodup_append]
        refine ⟨h, by simp, fun a ha b hb e => h' ?_⟩
        rw [List.mem_singleton.1 hb] at e
        exact List.any_eq_true.2 ⟨a, ha, decide_eq_true e⟩
    · rw [List.foldl_cons]
      have : (addU o r).length ≤ o.length + 1 := by
        unfold addU
        split <;> simp
      simp only [List.length_cons]
      omega
theorem mem_uniqL {l : List Rd} {x : Rd} : x ∈ uniqL l ↔ x ∈ l := by
  have := (foldl_addU l []).1 x
  simpa [uniqL] using this
theorem uniqL_nodup (l : List Rd) : (uniqL l).Nodup := (foldl_addU l []).2.1 List.nodup_nil
theorem uniqL_le (l : List Rd) : (uniqL l).length ≤ l.length := by
  have := (foldl_addU l []).2.2
  simpa [uniqL] using this
theorem nodup_le {α : Type} [DecidableEq α] : ∀ {l m : List α}, l.Nodup → (∀ x ∈ l, x ∈ m) → l.length ≤ m.length
  | [], m, _, _ => Nat.zero_le _
  | x :: l, m, hn, hs => by
    have hx := hs x (by simp)
    have hn' := List.nodup_cons.1 hn
    have h1 := nodup_le (l := l) (m := m.erase x) hn'.2 (fun y hy => (List.mem_erase_of_ne (fun (e : y = x) => hn'.1 (e ▸ hy))).2 (hs y (by simp [hy])))
    have h2 := List.length_erase_of_mem hx
    have h3 : 0 < m.length := List.length_pos_of_mem hx
    simp only [List.length_cons]
    omega
theorem uniqL_len (l : List Rd) : (uniqL l).length = (onceL l).length := by
  refine Nat.le_antisymm ?_ ?_
  · exact nodup_le (uniqL_nodup l) (fun x hx => mem_onceL.2 (mem_uniqL.1 hx))
  · exact nodup_le (rising_nodup (onceL_rising l)) (fun x hx => mem_uniqL.2 (mem_onceL.1 hx))
def anyK (o : List Rd) (x : Rd) (k : Nat) : Bool := (o.take k).any fun s => decide (s = x)
theorem anyK_succ {o : List Rd} {x s : Rd} {k : Nat} (h : o[k]? = some s) : anyK o x (k + 1) = (anyK o x k || decide (s = x)) := by
  unfold anyK
  rw [List.take_add_one, h, List.any_append]
  simp
set_option maxRecDepth 100000 in
set_option maxHeartbeats 2000000 in
theorem Once_ref (v : Value) (l : List Rd) (w : World) (hv : RdsAt w v l) (hl : l.length ≤ 1000000) : Calls Try.prog 17 #[v] w (GivesRds w (uniqL l)) := by
  obtain ⟨Av, cv, rfl, _, _⟩ := hv.form
  obtain ⟨i0, hi0, hz0, hz1, hz2⟩ := info_parts info_rdsR
  have ho0 : w.ownsRow w.heap.size 68 4 (.slice none 0 0) 0 ([] : List Value) := World.ownsRow_nil _ _ _ _
  have Hv := Lib.hid hv
  clear hv
  go_enter Try.func17, Try.ntmps17
  go_wp2
  go_loopw [3, 4] (fun o s wr => ∃ (k : Nat) (A : Option Addr) (c n : Nat), k ≤ l.length ∧ n = (uniqL (l.take k)).length ∧ o = .slice A n c ∧ s = .int .i64 k ∧ Below w.heap.size w wr ∧ wr.ownsRow w.heap.size 68 4 (.slice A n c) n ((uniqL (l.take k)).flatMap rdC)) (fun o s wr => l.length - (intOf s).toNat)
  case atStart => exact ⟨0, none, 0, 0, by omega, rfl, rfl, rfl, Below.refl _ _, ho0⟩
  case round =>
    obtain ⟨k, A, c, n, hk, hn, rfl, rfl, hbr, hor⟩ := hrel
    have Hbr := Lib.hid hbr
    have Hor := Lib.hid hor
    have Hn := Lib.hid hn
    clear hbr hor hn ho0
    by_cases hlt : k < l.length
    · obtain ⟨bb, oo, x, rfl, hx, d0, d1, d2, d3, _⟩ := (Hv.out.below Hbr.out).at_ (k := k) hlt
      have ik : (k : Int) < (l.length : Int) := by omega
      have hst := uniq_take hx
      have Hst := Lib.hid hst
      have hul := uniqL_le (l.take k)
      have htl : (l.take k).length ≤ l.length := by rw [List.length_take]; omega
      obtain ⟨o, ho⟩ : ∃ o, uniqL (l.take k) = o := ⟨_, rfl⟩
      have Ho := Lib.hid ho
      have hor := Hor.out
      have hn := Hn.out
      rw [ho] at hor hn hul
      have Hor2 := Lib.hid hor
      have hn' : n ≤ 1000000 := by omega
      have hno := Lib.hid hn
      clear hx hst ho hor hn hul htl
      go_wp2
      go_loopw [5, 6] (fun f s wi => ∃ (j : Nat), j ≤ n ∧ f = .bool (anyK o x j) ∧ s = .int .i64 j ∧ Below wr.heap.size wr wi) (fun f s wi => n - (intOf s).toNat)
      case atStart => exact ⟨0, by omega, by simp [anyK], rfl, Below.refl _ _⟩
      case round =>
        obtain ⟨j, hj, rfl, rfl, hbi⟩ := hrel
        have Hbi := Lib.hid hbi
        have e0 := cell_below hbi d0
        have e1 := cell_below hbi d1
        have e2 := cell_below hbi d2
        have e3 := cell_below hbi d3
        clear hbi
        by_cases hlj : j < n
        · have ij : (j : Int) < (n : Int) := by omega
          have hoi := own_below Hor2.out Hbi.out
          have hro := rds_own hoi
          obtain ⟨bo, oq, y, eA, hy, f0, f1, f2, f3, _⟩ := RdsAt.at_ (n := n) hro (k := j) (by have := hno.out; omega)
          subst eA
          have hsu := anyK_succ (x := x) hy
          have Hsu := Lib.hid hsu
          clear hoi hro hy hsu
          cases han : anyK o x j with
          | true =>
            rw [han] at Hsu
            have Han := Lib.hid han
            go_upto_region 9 with (fail)
            refine wp_region_later (by kernel_rfl) (by kernel_rfl) ?_
            repeat (change wpQuiet _ _ _ _ (_ :: _) _; go_big_quiet_step (fail))
            refine wpQuiet_nil ?_
            intro w2 hL2
            have hb2 := Later.out hL2
            clear hL2 e0 e1 e2 e3 f0 f1 f2 f3
            go_wp2
            go_roundw
            case rel => exact ⟨j + 1, by omega, by rw [Hsu.out]; rfl, by go_num, Hbi.out.trans (hb2.mono Hbi.out.size)⟩
            case measure => simp [intOf]; omega
          | false =>
            rw [han] at Hsu
            have Han := Lib.hid han
            have qe := rideR_eql
            have qg := rideR_guard
            replace e0 := Later.cell e0
            replace e1 := Later.cell e1
            replace e2 := Later.cell e2
            replace e3 := Later.cell e3
            replace f0 := Later.cell f0
            replace f1 := Later.cell f1
            replace f2 := Later.cell f2
            replace f3 := Later.cell f3
            go_upto_region 9 with (fail)
            refine wp_region_later (by kernel_rfl) (by kernel_rfl) ?_
            repeat (change wpQuiet _ _ _ _ (_ :: _) _; go_big_quiet_step (fail))
            refine wpQuiet_nil ?_
            intro w2 hL2
            have hb2 := Later.out hL2
            clear hL2 e0 e1 e2 e3 f0 f1 f2 f3 qe qg
            go_wp2
            go_roundw
            case rel => exact ⟨j + 1, by omega, by rw [Hsu.out]; simp, by go_num, Hbi.out.trans (hb2.mono Hbi.out.size)⟩
            case measure => simp [intOf]; omega
        · have ij : ¬ (j : Int) < (n : Int) := by omega
          have hall : anyK o x j = o.any fun s => decide (s = x) := by
            unfold anyK
            rw [List.take_of_length_le (by have := hno.out; omega)]
          have Hbw := Lib.hid (Hbr.out.trans (Hbi.out.mono Hbr.out.size))
          cases han : anyK o x j with
          | true =>
            have hadd : addU o x = o := by unfold addU; rw [if_pos (by rw [← hall]; exact han)]
            have Hadd := Lib.hid hadd
            have Hoo := Lib.hid (own_below Hor2.out Hbi.out)
            clear hadd hall e0 e1 e2 e3
            go_wp2
            go_roundw
            case rel => exact ⟨k + 1, A, c, n, by omega, by rw [Hst.out, Ho.out, Hadd.out]; exact hno.out, rfl, by go_num, Hbw.out, by rw [Hst.out, Ho.out, Hadd.out]; exact Hoo.out⟩
            case measure => simp [intOf]; omega
          | false =>
            have hadd : addU o x = o ++ [x] := by unfold addU; rw [if_neg (by rw [← hall, han]; decide)]
            have Hadd := Lib.hid hadd
            have Hoo := Lib.hid (own_below Hor2.out Hbi.out)
            clear hadd hall
            go_wp2_with (at_builtin; refine wpList_append_src _ rfl (.tmp 33) (.tmp 38) 25 rfl w.heap.size 68 i0 _ 4 32 Try.underlying25 hi0 hz0 hz1 hz2 rfl (by omega) _ n _ rfl (Hoo.out.alloc _) (some ⟨wr.heap.size, 0, none⟩) 1 1 (rdC x) rfl (src_new wr (rdC x) 68 1 4 rfl) (by simp [rdC, Value.oneCell']) (by unfold maxLen; omega) (by omega) (Nat.le_trans Hbw.out.size (by simp)) ?_; intro v6 w6 hown6 hg6 hat6)
            have hb6 : Below w.heap.size w w6 := below_grown (Hbw.out.alloc Hbw.out.size _) hg6 (Nat.le_trans Hbw.out.size (by simp)) (Hoo.out.alloc _) (Nat.le_refl _)
            obtain ⟨A6, c6, rfl⟩ := own_form hown6
            have Hb6 := Lib.hid hb6
            have Ho6 := Lib.hid hown6
            clear hown6 hg6 hat6 hb6 e0 e1 e2 e3
            go_roundw
            case rel =>
              refine ⟨k + 1, A6, c6, n + 1, by omega, ?_, rfl, by go_num, Hb6.out, ?_⟩
              · rw [Hst.out, Ho.out, Hadd.out, List.length_append, ← hno.out]
                rfl
              · rw [Hst.out, Ho.out, Hadd.out, List.flatMap_append]
                simpa using Ho6.out
            case measure => simp [intOf]; omega
    · have hke : k = l.length := by omega
      have ik : ¬ (k : Int) < (l.length : Int) := by omega
      go_wp2
      go_ret
      have hn := Hn.out
      have ho := Hor.out
      rw [hke, List.take_length] at hn ho
      rw [hn] at ho ⊢
      exact ⟨A, c, rfl, rds_own ho, Hbr.out⟩
theorem ridesF_tar {t : Tar} (l : List Rd) (ht : tarB t = true) : ridesF t l = if 12 < (onceL l).length then 3 else if (onceL l).all (rideB t) then 0 else 2 := by unfold ridesF; rw [if_pos ht]
theorem ridesF_two {t : Tar} {l : List Rd} {x : Rd} (ht : tarB t = true) (h12 : ¬ 12 < (onceL l).length) (hx : x ∈ l) (hb : rideB t x = false) : ridesF t l = 2 := by
  rw [ridesF_tar l ht, if_neg h12, if_neg]
  intro h
  have := List.all_eq_true.1 h x (mem_onceL.2 hx)
  rw [hb] at this
  cases this
theorem ridesF_none {t : Tar} {l : List Rd} (ht : tarB t = true) (h12 : ¬ 12 < (onceL l).length) (h : ∀ x ∈ l, rideB t x = true) : ridesF t l = 0 := by
  rw [ridesF_tar l ht, if_neg h12, if_pos]
  exact List.all_eq_true.2 fun x hx => h x (mem_onceL.1 hx)
set_option maxRecDepth 100000 in
set_option maxHeartbeats 2000000 in
theorem RidesFault_ref (t : Tar) (a b c v : Value) (l : List Rd) (w : World) (ht : tarB t = true) (hv : RdsAt w v l) (hl : l.length ≤ 1000000) : Calls Try.prog 46 #[.agg #[.int .i64 t.zones, a, b, c, .int .i64 t.window], v] w (Gives w (.int .i64 (ridesF t l))) := by
  obtain ⟨Av, cv, rfl, _, _⟩ := hv.form
  have hb0 : Below w.heap.size w (w.alloc (.cells #[.int .i64 t.zones, a, b, c, .int .i64 t.window] 24)) := (Below.refl _ _).alloc (Nat.le_refl _) _
  have hx0 : (w.alloc (.cells #[.int .i64 t.zones, a, b, c, .int .i64 t.window] 24)).heap[w.heap.size]? = some (.cells #[.int .i64 t.zones, a, b, c, .int .i64 t.window] 24 (0, 0)) := heap_alloc_new w _
  have Hv := Lib.hid hv
  have Hx0 := Lib.hid hx0
  have Hb0 := Lib.hid hb0
  have Ht := Lib.hid ht
  clear hv hx0 hb0 ht
  go_enter Try.func46, Try.ntmps46
  go_wp2_with fail
  refine (Once_ref _ l _ (Hv.out.below Hb0.out) hl).mono ?_
  rintro e w1 ⟨A1, c1, rfl, hr1, hb1⟩
  have Hb1 := Lib.hid (Hb0.out.trans (hb1.mono Hb0.out.size))
  have Hx1 := Lib.hid ((hb1.block w.heap.size (by simp)).trans Hx0.out)
  have hul := uniqL_len l
  obtain ⟨m, hm⟩ : ∃ m, (uniqL l).length = m := ⟨_, rfl⟩
  rw [hm] at hul ⊢
  have Hul := Lib.hid hul
  clear hul hm hr1 hb1 Hx0 Hb0
  by_cases h12 : 12 < m
  · have i12 : (12 : Int) < (m : Int) := by omega
    have hf : ridesF t l = 3 := by rw [ridesF_tar l Ht.out, if_pos (by rw [← Hul.out]; exact h12)]
    have Hf := Lib.hid hf
    clear hf h12
    go_wp2
    go_ret
    exact gives_int Hf.out.symm Hb1.out
  have i12 : ¬ (12 : Int) < (m : Int) := by omega
  have hn12 : ¬ 12 < (onceL l).length := by rw [← Hul.out]; exact h12
  have Hn12 := Lib.hid hn12
  clear h12 hn12
  go_wp2
  go_loopw [5] (fun s wr => ∃ k : Nat, k ≤ l.length ∧ s = .int .i64 k ∧ Below w1.heap.size w1 wr ∧ ∀ (j : Nat) (x : Rd), j < k → l[j]? = some x → rideB t x = true) (fun s wr => l.length - (intOf s).toNat)
  case atStart => exact ⟨0, by omega, rfl, Below.refl _ _, fun j x h => by omega⟩
  case round =>
    obtain ⟨k, hk, rfl, hbr, hall⟩ := hrel
    have Hbr := Lib.hid hbr
    have Hall := Lib.hid hall
    clear hbr hall
    by_cases hlt : k < l.length
    · obtain ⟨bb, oo, x, rfl, hx, d0, d1, d2, d3, _⟩ := ((Hv.out.below Hb1.out).below Hbr.out).at_ (k := k) hlt
      have ik : (k : Int) < (l.length : Int) := by omega
      have hX := (Hbr.out.block _ (Array.getElem?_eq_some_iff.1 Hx1.out).1).trans Hx1.out
      have aq := box_cells hX
      have a0 := aq 0
      have a1 := aq 1
      have a2 := aq 2
      have a3 := aq 3
      have a4 := aq 4
      simp only [List.getElem?_toArray, List.getElem?_cons_zero, List.getElem?_cons_succ] at a0 a1 a2 a3 a4
      clear aq
      have Hx := Lib.hid hx
      replace a0 := Later.cell a0
      replace a1 := Later.cell a1
      replace a2 := Later.cell a2
      replace a3 := Later.cell a3
      replace a4 := Later.cell a4
      replace d0 := Later.cell d0
      replace d1 := Later.cell d1
      replace d2 := Later.cell d2
      replace d3 := Later.cell d3
      have Hir := Lib.hid (fun W => IsRide_ref t a b c x W)
      clear hX hx
      go_upto_region 6 with (fail)
      refine wp_region_later (by kernel_rfl) (by kernel_rfl) ?_
      repeat (change wpQuiet _ _ _ _ (_ :: _) _; go_big_quiet_step (fail))
      go_big_quiet_step ((go_at_call 73; exact Later.call (Hir.out _)))
      repeat (change wpQuiet _ _ _ _ (_ :: _) _; go_big_quiet_step (fail))
      refine wpQuiet_nil ?_
      intro w2 hL2
      have hb2 := Later.out hL2
      have Hb2 := Lib.hid (Hbr.out.trans (hb2.mono Hbr.out.size))
      clear hL2 hb2 a0 a1 a2 a3 a4 d0 d1 d2 d3
      cases hin : rideB t x with
      | false =>
        have hf := ridesF_two Ht.out Hn12.out (List.mem_of_getElem? Hx.out) hin
        have Hf := Lib.hid hf
        clear hf hin
        go_wp2
        go_ret
        exact gives_int Hf.out.symm (Hb1.out.trans (Hb2.out.mono Hb1.out.size))
      | true =>
        have Hin := Lib.hid hin
        clear hin
        go_wp2
        go_roundw
        case rel =>
          refine ⟨k + 1, by omega, by go_num, Hb2.out, fun j y hj hy => ?_⟩
          by_cases e : j = k
          · subst e
            rw [Hx.out] at hy
            cases hy
            exact Hin.out
          · exact Hall.out j y (by omega) hy
        case measure => simp [intOf]; omega
    · have ik : ¬ (k : Int) < (l.length : Int) := by omega
      have hf := ridesF_none Ht.out Hn12.out (fun x hx => by
        obtain ⟨i, hi⟩ := List.getElem?_of_mem hx
        exact Hall.out i x (by have := (List.getElem?_eq_some_iff.1 hi).1; omega) hi)
      have Hf := Lib.hid hf
      clear hf
      go_wp2
      go_ret
      exact gives_int Hf.out.symm (Hb1.out.trans (Hbr.out.mono Hb1.out.size))
set_option maxRecDepth 100000 in
theorem rides_law (t : Tar) (a b c v : Value) (l : List Rd) (w : World) (hT : TarAt w a b c t) (hv : RdsAt w v l) (hl : l.length ≤ 1000000) : Calls Try.prog 16 #[.agg #[.int .i64 t.zones, a, b, c, .int .i64 t.window], v] w (Gives w (.int .i64 (ridesF t l))) := by
  have hb0 : Below w.heap.size w (w.alloc (.cells #[.int .i64 t.zones, a, b, c, .int .i64 t.window] 24)) := (Below.refl _ _).alloc (Nat.le_refl _) _
  have hx0 : (w.alloc (.cells #[.int .i64 t.zones, a, b, c, .int .i64 t.window] 24)).heap[w.heap.size]? = some (.cells #[.int .i64 t.zones, a, b, c, .int .i64 t.window] 24 (0, 0)) := heap_alloc_new w _
  have Hfa := Lib.hid (fault_law t a b c _ (hT.below hb0))
  have Hv := Lib.hid hv
  have Hx0 := Lib.hid hx0
  have Hb0 := Lib.hid hb0
  clear hT hv hx0 hb0
  cases ht : tarB t with
  | false =>
    have h1 : faultT t = 1 := by unfold faultT; rw [if_neg (by simp [ht])]
    have h2 : ridesF t l = 1 := by unfold ridesF; rw [if_neg (by simp [ht])]
    rw [h1] at Hfa
    rw [h2]
    clear h1 h2 ht
    go_enter Try.func16, Try.ntmps16
    go_wp2_with fail
    refine Hfa.out.mono ?_
    rintro e w1 ⟨rfl, hb1⟩
    go_wp2
    go_ret
    exact ⟨rfl, Hb0.out.trans (hb1.mono Hb0.out.size)⟩
  | true =>
    have h1 : faultT t = 0 := by unfold faultT; rw [if_pos ht]
    rw [h1] at Hfa
    have Ht := Lib.hid ht
    have hrw : IntKind.i64.wrap (ridesF t l) = ridesF t l := by
      rw [ridesF_tar l ht]
      split
      · rfl
      · split <;> rfl
    clear h1 ht
    obtain ⟨F, hF⟩ : ∃ F, ridesF t l = F := ⟨_, rfl⟩
    rw [hF] at hrw ⊢
    have HF := Lib.hid hF
    clear hF
    go_enter Try.func16, Try.ntmps16
    go_wp2_with fail
    refine Hfa.out.mono ?_
    rintro e w1 ⟨rfl, hb1⟩
    have hX := (hb1.block w.heap.size (by simp)).trans Hx0.out
    have aq := box_cells hX
    have a0 := aq 0
    have a1 := aq 1
    have a2 := aq 2
    have a3 := aq 3
    have a4 := aq 4
    simp only [List.getElem?_toArray, List.getElem?_cons_zero, List.getElem?_cons_succ] at a0 a1 a2 a3 a4
    clear aq
    have Hb1 := Lib.hid (Hb0.out.trans (hb1.mono Hb0.out.size))
    clear hX hb1
    go_wp2_with fail
    refine (RidesFault_ref t a b c _ l w1 Ht.out (Hv.out.below Hb1.out) hl).mono ?_
    rintro e w2 ⟨rfl, hb2⟩
    rw [HF.out]
    clear a0 a1 a2 a3 a4
    go_wp2
    go_ret
    exact ⟨rfl, Hb1.out.trans (hb2.mono Hb1.out.size)⟩
def readyB (t : Tar) (l : List Rd) : Bool := thinB t && (decide (l.length ≤ 20) && decide (ridesF t l = 0))
set_option maxRecDepth 100000 in
set_option maxHeartbeats 1000000 in
theorem ready_any (t : Tar) (a b c v : Value) (l : List Rd) (w : World) (hT : TarAt w a b c t) (hv : RdsAt w v l) : Calls Try.prog 38 #[.agg #[.int .i64 t.zones, a, b, c, .int .i64 t.window], v] w (Gives w (.bool (readyB t l))) := by
  have hb0 : Below w.heap.size w (w.alloc (.cells #[.int .i64 t.zones, a, b, c, .int .i64 t.window] 24)) := (Below.refl _ _).alloc (Nat.le_refl _) _
  have hx0 : (w.alloc (.cells #[.int .i64 t.zones, a, b, c, .int .i64 t.window] 24)).heap[w.heap.size]? = some (.cells #[.int .i64 t.zones, a, b, c, .int .i64 t.window] 24 (0, 0)) := heap_alloc_new w _
  have Hth := Lib.hid (Thin_any t a b c _ (hT.below hb0))
  obtain ⟨Av, cv, rfl, _, _⟩ := hv.form
  have HT := Lib.hid hT
  have Hv := Lib.hid hv
  have Hx0 := Lib.hid hx0
  have Hb0 := Lib.hid hb0
  clear hT hv hx0 hb0
  unfold readyB
  cases ht : thinB t with
  | false =>
    rw [ht] at Hth
    clear ht
    simp only [Bool.false_and]
    go_enter Try.func38, Try.ntmps38
    go_wp2_with fail
    refine Hth.out.mono ?_
    rintro e w1 ⟨rfl, hb1⟩
    go_wp2
    go_ret
    exact ⟨rfl, Hb0.out.trans (hb1.mono Hb0.out.size)⟩
  | true =>
    rw [ht] at Hth
    clear ht
    simp only [Bool.true_and]
    by_cases h20 : l.length ≤ 20
    rotate_left
    · have i20 : ¬ (l.length : Int) ≤ 20 := by omega
      simp only [h20, decide_false, Bool.false_and]
      clear h20
      go_enter Try.func38, Try.ntmps38
      go_wp2_with fail
      refine Hth.out.mono ?_
      rintro e w1 ⟨rfl, hb1⟩
      go_wp2
      go_ret
      exact ⟨rfl, Hb0.out.trans (hb1.mono Hb0.out.size)⟩
    have i20 : (l.length : Int) ≤ 20 := by omega
    have H20 := Lib.hid h20
    simp only [h20, decide_true, Bool.true_and]
    have hde : decide (ridesF t l = 0) = (ridesF t l == 0) := by by_cases h : ridesF t l = 0 <;> simp [h]
    rw [hde]
    obtain ⟨F, hF⟩ : ∃ F, ridesF t l = F := ⟨_, rfl⟩
    rw [hF]
    have HF := Lib.hid hF
    clear hF h20 hde
    go_enter Try.func38, Try.ntmps38
    go_wp2_with fail
    refine Hth.out.mono ?_
    rintro e w1 ⟨rfl, hb1⟩
    have hX := (hb1.block w.heap.size (by simp)).trans Hx0.out
    have aq := box_cells hX
    have a0 := aq 0
    have a1 := aq 1
    have a2 := aq 2
    have a3 := aq 3
    have a4 := aq 4
    simp only [List.getElem?_toArray, List.getElem?_cons_zero, List.getElem?_cons_succ] at a0 a1 a2 a3 a4
    clear aq
    have Hb1 := Lib.hid (Hb0.out.trans (hb1.mono Hb0.out.size))
    clear hX hb1
    go_wp2_with fail
    refine (rides_law t a b c _ l w1 (HT.out.below Hb1.out) (Hv.out.below Hb1.out) (by have := H20.out; omega)).mono ?_
    rintro e w2 ⟨rfl, hb2⟩
    rw [HF.out]
    clear a0 a1 a2 a3 a4
    go_wp2
    go_ret
    exact ⟨rfl, Hb1.out.trans (hb2.mono Hb1.out.size)⟩
end Go.Proofs.Ytmbkpfkkohpnkaa
