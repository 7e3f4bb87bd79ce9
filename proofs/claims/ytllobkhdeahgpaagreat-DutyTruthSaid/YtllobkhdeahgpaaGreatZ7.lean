import Derived.Test.YtllobkhdeahgpaaGreatZ6
set_option linter.unusedVariables false
set_option linter.unusedSimpArgs false
namespace Go.Proofs.YtllobkhdeahgpaaGreat
open Go Go.Proofs Go.RowKit

/-! ### Breaks -/
theorem breaksP_len (tb te : Nat → Nat → Int) : ∀ ps : List Pc, (breaksP tb te ps).length = ps.length - 1
  | [] => rfl
  | [p] => rfl
  | p :: q :: t => by
    have := breaksP_len tb te (q :: t)
    simp only [breaksP, List.length_cons] at this ⊢
    omega
theorem breaksP_get {tb te : Nat → Nat → Int} : ∀ {ps : List Pc} {k : Nat} {p q : Pc}, ps[k]? = some p → ps[k + 1]? = some q → (breaksP tb te ps)[k]? = some (tb q.b q.fr - te p.b p.to)
  | [], k, p, q, h, _ => by simp at h
  | [a], k, p, q, _, h => by simp at h
  | a :: b :: t, 0, p, q, h1, h2 => by
    simp at h1 h2
    subst h1 h2
    simp [breaksP]
  | a :: b :: t, k + 1, p, q, h1, h2 => by
    have ih := breaksP_get (tb := tb) (te := te) (ps := b :: t) (k := k) (p := p) (q := q) (by simpa using h1) (by simpa using h2)
    simp only [breaksP, List.getElem?_cons_succ]
    exact ih
theorem restsP_get {d : DDay} {tb te : Nat → Nat → Int} : ∀ {ps : List Pc} {k : Nat} {p q : Pc}, ps[k]? = some p → ps[k + 1]? = some q → (restsP d tb te ps)[k]? = some (tb q.b q.fr - te p.b p.to - gapP d p q)
  | [], k, p, q, h, _ => by simp at h
  | [a], k, p, q, _, h => by simp at h
  | a :: b :: t, 0, p, q, h1, h2 => by
    simp at h1 h2
    subst h1 h2
    simp [restsP]
  | a :: b :: t, k + 1, p, q, h1, h2 => by
    have ih := restsP_get (d := d) (tb := tb) (te := te) (ps := b :: t) (k := k) (p := p) (q := q) (by simpa using h1) (by simpa using h2)
    simp only [restsP, List.getElem?_cons_succ]
    exact ih
theorem restsP_len (d : DDay) (tb te : Nat → Nat → Int) : ∀ ps : List Pc, (restsP d tb te ps).length = ps.length - 1
  | [] => rfl
  | [p] => rfl
  | p :: q :: t => by
    have := restsP_len d tb te (q :: t)
    simp only [restsP, List.length_cons] at this ⊢
    omega
set_option maxRecDepth 100000 in
set_option maxHeartbeats 3200000 in
theorem Breaks_any (v vb ve : Value) (ps : List Pc) (B E : List (List Int)) (w : World) (hv : PcsAt w v ps) (hb : RowsAt w vb B) (he : RowsAt w ve E) (hB : SmallT B) (hE : SmallT E) (hps : ∀ p ∈ ps, InTab B p.b p.fr ∧ InTab E p.b p.to) (hl : ps.length ≤ 100) :
    Calls Tryz.prog 42 #[v, vb, ve] w (GivesOwn w (breaksP (tabT B) (tabT E) ps)) := by
  obtain ⟨A, c, rfl, hc, hm⟩ := hv.form
  obtain ⟨A1, c1, rfl, hc1, hm1⟩ := hb.form
  obtain ⟨A2, c2, rfl, hc2, hm2⟩ := he.form
  obtain ⟨i0, hi0, hz0, hz1, hz2⟩ := info_parts infoI
  have Hv := Lib.hid hv
  have Hb := Lib.hid hb
  have He := Lib.hid he
  have HB := Lib.hid hB
  have HE := Lib.hid hE
  have Hps := Lib.hid hps
  have HBl := Lib.hid (breaksP_len (tabT B) (tabT E) ps)
  clear hv hb he hB hE hps
  go_enter Tryz.func42, Tryz.ntmps42
  go_wp2
  go_loopw [7, 8] (fun x i wr => ∃ (k : Nat) (A' : Option Addr) (c' : Nat), i = .int .i64 ((k : Int) + 1) ∧ k ≤ ps.length ∧ (k + 1 ≤ ps.length ∨ k = 0) ∧ x = .slice A' k c' ∧ Below w.heap.size w wr ∧ wr.ownsRow w.heap.size 3 1 x k (((breaksP (tabT B) (tabT E) ps).take k).map (.int .i64))) (fun x i wr => ps.length - (intOf i).toNat)
  case atStart => exact ⟨0, none, 0, rfl, by omega, by omega, rfl, Below.refl _ _, World.ownsRow_nil _ _ _ _⟩
  case round =>
    obtain ⟨k, A', c', rfl, hk, hk2, rfl, hbr, hown⟩ := hrel
    obtain ⟨wo, rfl⟩ : ∃ wo : World, wo = wr := ⟨_, rfl⟩
    have Hown := Lib.hid hown
    have hsz := hbr.size
    clear hown
    by_cases hlt : k + 1 < ps.length
    · obtain ⟨b0, o0, q, rfl, hq, q0, q1, q2, q3, _⟩ := Hv.out.at_ (k := k + 1) hlt
      obtain ⟨b0', o0', p, e, hp, p0, p1, p2, p3, _⟩ := Hv.out.at_ (k := k) (by omega)
      cases e
      obtain ⟨t1, _⟩ := Hps.out q (List.mem_of_getElem? hq)
      obtain ⟨_, t2⟩ := Hps.out p (List.mem_of_getElem? hp)
      obtain ⟨b1, o1, b2, o2, m, c2', rfl, e0, e1, e2⟩ := tab_cells Hb.out t1
      obtain ⟨b3, o3, b4, o4, m', c'', rfl, g0, g1, g2⟩ := tab_cells He.out t2
      have hst := breaksP_get (tb := tabT B) (te := tabT E) hp hq
      have bd1 := HB.out q.b q.fr
      have bd2 := HE.out p.b p.to
      have Hst := Lib.hid hst
      have i1 : (q.b : Int) < (B.length : Int) := by have := t1.1; omega
      have i2 : (p.b : Int) < (E.length : Int) := by have := t2.1; omega
      have i3 : (q.fr : Int) < (m : Int) := by omega
      have i4 : (p.to : Int) < (m' : Int) := by omega
      have i5 : (k : Int) + 1 < (ps.length : Int) := by omega
      have i6 : IntKind.i64.wrap ((k : Int) + 1 - 1) = (k : Int) := by rw [IntWalk.i64_in _ (by omega)]; omega
      have i7 : (k : Int) + 1 - 1 = (k : Int) := by omega
      have i8 : (k : Int) < (ps.length : Int) := by omega
      have i9 : ((k : Int) + 1).toNat = k + 1 := by omega
      generalize hX : tabT B q.b q.fr = X at *
      generalize hY : tabT E p.b p.to = Y at *
      have k1 : IntKind.i64.wrap (X - Y) = X - Y := IntWalk.i64_in _ (by omega)
      clear hst hp hq hX hY t1 t2
      go_wp2_with fail
      refine wp_region_noPanic ?_
      refine wp_region_pick [0, 1, 2, 3, 4, 5, 6, 7, 8, 9, 10, 11, 12, 13, 14, 15, 16, 17, 18, 19, 20, 21, 22, 23, 24, 25, 26, 27, 28, 29, 30, 31, 32, 33] [34, 35, 36] (fun _ => true) (fun w' => Below w.heap.size w w') (by kernel_rfl) (by kernel_rfl) (fun _ _ _ _ _ h => h) hbr.drew (fun hne => ?_)
      have f0 := fun x : Meets (fun w' => Below w.heap.size w w') => cell_below x.property p0
      have f1 := fun x : Meets (fun w' => Below w.heap.size w w') => cell_below x.property p2
      have f2 := fun x : Meets (fun w' => Below w.heap.size w w') => cell_below x.property q0
      have f3 := fun x : Meets (fun w' => Below w.heap.size w w') => cell_below x.property q1
      have f4 := fun x : Meets (fun w' => Below w.heap.size w w') => cell_below x.property e0
      have f5 := fun x : Meets (fun w' => Below w.heap.size w w') => cell_below x.property e2
      have f6 := fun x : Meets (fun w' => Below w.heap.size w w') => cell_below x.property g0
      have f7 := fun x : Meets (fun w' => Below w.heap.size w w') => cell_below x.property g2
      simp only [pick, pickN, List.filterMap_cons, List.filterMap_nil, List.getElem?_cons_zero, List.getElem?_cons_succ, Option.map_some]
      repeat (change wpQuiet _ _ _ _ (_ :: _) _; go_big_quiet_step (fail))
      refine wpQuiet_nil ?_
      clear f0 f1 f2 f3 f4 f5 f6 f7 hne
      have hd0 : Below wo.heap.size wo wo.drew := (Below.refl _ _).drew
      refine wpSeqP_step (fun K hK => ?_)
      go_simp
      have hd1 : Below wo.heap.size wo ((wo.alloc (.cells #[.int .i64 (X - Y)] 3)).drew) := ((Below.refl _ _).alloc (Nat.le_refl _) _).drew
      refine hK.out _ _ (fun _ => hbr.trans (hd1.mono hsz)) ?_
      clear hK K
      have hsr : Src ((wo.alloc (.cells #[.int .i64 (X - Y)] 3)).drew) (some ⟨wo.heap.size, 0, none⟩) 1 1 [.int .i64 (X - Y)] := src_new wo [.int .i64 (X - Y)] 3 1 1 rfl
      refine wpSeqP_step (fun K hK => ?_)
      refine step_append_src _ rfl (.tmp 15) (.tmp 49) 28 rfl w.heap.size 3 i0 _ 1 8 Tryz.underlying28 hi0 hz0 hz1 hz2 rfl (by omega) (.slice A' k c') k _ rfl (own_below Hown.out hd1) (some ⟨wo.heap.size, 0, none⟩) 1 1 [.int .i64 (X - Y)] rfl hsr (by simp [Value.oneCell']) (by unfold maxLen; omega) (by omega) (by have := hd1.size; omega) ?_
      intro AA cc w2 ho2 hg2 hat2
      have hb2 : Below w.heap.size w w2 := (hbr.trans (hd1.mono hsz)).grown hg2 (by have := hd1.size; omega) fun g hg => (Hown.out.lt g hg).1
      refine hK.out _ _ (fun _ => hb2) ?_
      clear hK K
      have Ho2 := Lib.hid ho2
      have Hb2 := Lib.hid hb2
      clear ho2 hg2 hat2
      refine wpSeqP_step (fun K hK => ?_)
      go_simp
      refine hK.out _ _ (fun _ => Hb2.out) ?_
      refine wpSeqP_nil ?_
      refine NoPanic.normal ?_
      go_wp2
      go_roundw
      case rel =>
        refine ⟨k + 1, AA, cc, ?_, by omega, Or.inl (by omega), rfl, hb2, ?_⟩
        · simp
        · rw [List.take_add_one, Hst.out]
          simpa using Ho2.out
      case measure => simp only [intOf]; omega
    · have e : (breaksP (tabT B) (tabT E) ps).length ≤ k := by rw [HBl.out]; omega
      have i5 : ¬ (k : Int) + 1 < (ps.length : Int) := by omega
      have hO := Hown.out
      rw [List.take_of_length_le e] at hO
      have hl2 : k = (breaksP (tabT B) (tabT E) ps).length := by
        have := hO.1
        simpa using this.symm
      have HO := Lib.hid hO
      clear hO e HBl Hown Hv Hb He HB HE Hps
      go_wp2_with fail
      go_ret
      refine ⟨A', c', rfl, ?_, hbr⟩
      have := HO.out
      rwa [← hl2]
end Go.Proofs.YtllobkhdeahgpaaGreat
