import Derived.Test.YtckgapeednokjaaGreatTl
set_option linter.unusedVariables false
set_option linter.unusedSimpArgs false
namespace Go.Proofs.YtckgapeednokjaaGreat
open Go Go.Proofs Go.RowKit

/-! ### run: give -/
/-- What does not change while followers are given. -/
structure GiveEnv (Wb : World) (t : Tab) (u z : Value) (N Mv Sb Tb Gv MB O nb bb : Nat) (us : List Value) : Prop where
  mv : Wb.heap[Mv]? = some (.cells #[.pointer (some ⟨MB, 0, none⟩)] 121 (0, 0))
  sb : Wb.heap[Sb]? = some (.cells (List.replicate 12 (Value.bool true)).toArray 124 (0, 0))
  gv : Wb.heap[Gv]? = some (.cells #[.func (.func 89) #[] #[.pointer (some ⟨Mv, 0, none⟩), .pointer (some ⟨Sb, 0, none⟩), .pointer (some ⟨Tb, 0, none⟩), .pointer (some ⟨Gv, 0, none⟩)]] 103 (0, 0))
  mb : Wb.heap[MB]? = some (.cells #[.int .i64 t.places, .int .i64 t.lay, u, z, .slice (some ⟨O, 0, none⟩) N N, .slice (some ⟨nb, 0, none⟩) N N, .slice (some ⟨bb, 0, none⟩) N N] 127 (0, 0))
  ob : Wb.heap[O]? = some (.cells us.toArray 29 (0, 0))
  row : ∀ i, i < N → ∃ A c, us[i]? = some (.slice A (rowOf (pairsL t N) i).length c) ∧ NumsAt .i64 Wb (.slice A (rowOf (pairsL t N) i).length c) (rowOf (pairsL t N) i) ∧ ∀ b o, A = some ⟨b, o, none⟩ → b ≠ nb ∧ b ≠ bb ∧ b ≠ Tb
  len : us.length = N
  n12 : N ≤ 12
  d1 : nb ≠ bb
  d2 : Tb ≠ nb ∧ Tb ≠ bb
  dM : Mv ≠ nb ∧ Mv ≠ bb ∧ Mv ≠ Tb
  dS : Sb ≠ nb ∧ Sb ≠ bb ∧ Sb ≠ Tb
  dG : Gv ≠ nb ∧ Gv ≠ bb ∧ Gv ≠ Tb
  dB : MB ≠ nb ∧ MB ≠ bb ∧ MB ≠ Tb
  dO : O ≠ nb ∧ O ≠ bb ∧ O ≠ Tb
/-- Who follows whom so far, and what is tried. -/
structure GiveSt (Wb : World) (N Tb nb bb : Nat) (nx bf : List Int) (tr : List Bool) (W : World) : Prop where
  chg : Chg (fun k => k = nb ∨ k = bb ∨ k = Tb) Wb W
  nbk : W.heap[nb]? = some (.cells (nx.map (Value.int .i64)).toArray 3 (0, 0))
  bbk : W.heap[bb]? = some (.cells (bf.map (Value.int .i64)).toArray 3 (0, 0))
  tbk : W.heap[Tb]? = some (.cells (tr.map Value.bool).toArray 124 (0, 0))
  ln : nx.length = N
  lb : bf.length = N
  lt : tr.length = 12
section
variable {Wb W W' : World} {N Tb nb bb : Nat} {nx bf : List Int} {tr : List Bool}
theorem GiveSt.keep (h : GiveSt Wb N Tb nb bb nx bf tr W) {k : Nat} {o : Obj} (hk : Wb.heap[k]? = some o) (h1 : k ≠ nb ∧ k ≠ bb ∧ k ≠ Tb) : W.heap[k]? = some o :=
  (h.chg.block k (Array.getElem?_eq_some_iff.1 hk).1 (by rintro (h2 | h2 | h2) <;> simp_all)).trans hk
theorem GiveSt.cell (h : GiveSt Wb N Tb nb bb nx bf tr W) {p : Addr} {v : Value} (hk : Wb.cell? p = some v) (h1 : p.block ≠ nb ∧ p.block ≠ bb ∧ p.block ≠ Tb) : W.cell? p = some v :=
  h.chg.cell (by rintro (h2 | h2 | h2) <;> simp_all) hk
theorem GiveSt.below (h : GiveSt Wb N Tb nb bb nx bf tr W) (hb : Below W.heap.size W W') : GiveSt Wb N Tb nb bb nx bf tr W' :=
  ⟨h.chg.trans (Chg.of_below hb), (hb.block _ (Array.getElem?_eq_some_iff.1 h.nbk).1).trans h.nbk, (hb.block _ (Array.getElem?_eq_some_iff.1 h.bbk).1).trans h.bbk, (hb.block _ (Array.getElem?_eq_some_iff.1 h.tbk).1).trans h.tbk, h.ln, h.lb, h.lt⟩
theorem map_setV {α : Type} (f : α → Value) (l : List α) (n : Nat) (x : α) : (l.map f).set n (f x) = (l.set n x).map f := by rw [List.map_set]
theorem GiveSt.setT (h : GiveSt Wb N Tb nb bb nx bf tr W) (hd : Tb ≠ nb ∧ Tb ≠ bb) (k : Nat) (b : Bool) : GiveSt Wb N Tb nb bb nx bf (tr.set k b) (W.setCell ⟨Tb, k, none⟩ (.bool b)) := by
  refine ⟨h.chg.trans (Chg.set _ (.inr (.inr rfl)) _), blk_other h.nbk (fun e => hd.1 e.symm) _, blk_other h.bbk (fun e => hd.2 e.symm) _, ?_, h.ln, h.lb, by rw [List.length_set]; exact h.lt⟩
  have := blk_set (o := k) h.tbk (.bool b)
  rw [List.setIfInBounds_toArray, map_setV] at this
  exact this
theorem GiveSt.setN (h : GiveSt Wb N Tb nb bb nx bf tr W) (hd : nb ≠ bb) (hd2 : Tb ≠ nb ∧ Tb ≠ bb) (i : Nat) (x : Int) : GiveSt Wb N Tb nb bb (nx.set i x) bf tr (W.setCell ⟨nb, i, none⟩ (.int .i64 x)) := by
  refine ⟨h.chg.trans (Chg.set _ (.inl rfl) _), ?_, blk_other h.bbk (fun e => hd e.symm) _, blk_other h.tbk hd2.1 _, by rw [List.length_set]; exact h.ln, h.lb, h.lt⟩
  have := blk_set (o := i) h.nbk (.int .i64 x)
  rw [List.setIfInBounds_toArray, map_setV] at this
  exact this
theorem GiveSt.setB (h : GiveSt Wb N Tb nb bb nx bf tr W) (hd : nb ≠ bb) (hd2 : Tb ≠ nb ∧ Tb ≠ bb) (i : Nat) (x : Int) : GiveSt Wb N Tb nb bb nx (bf.set i x) tr (W.setCell ⟨bb, i, none⟩ (.int .i64 x)) := by
  refine ⟨h.chg.trans (Chg.set _ (.inr (.inl rfl)) _), blk_other h.nbk hd _, ?_, blk_other h.tbk hd2.2 _, h.ln, by rw [List.length_set]; exact h.lb, h.lt⟩
  have := blk_set (o := i) h.bbk (.int .i64 x)
  rw [List.setIfInBounds_toArray, map_setV] at this
  exact this
end
/-- What give hands back. -/
def GivesGive (Wb : World) (t : Tab) (N Tb nb bb i : Nat) (nx bf : List Int) (tr : List Bool) (e : Ending) (w' : World) : Prop := ∃ (r : Bool) (nx' bf' : List Int) (tr' : List Bool), e = .returned (.bool r) ∧ GiveSt Wb N Tb nb bb nx' bf' tr' w' ∧
  (∀ q, triedAt tr q = true → triedAt tr' q = true) ∧ (r = false → nx' = nx ∧ bf' = bf) ∧ (r = true → Gave N (May t) i nx bf tr nx' bf')
def untried (tr : List Bool) : Nat := tr.countP fun b => !b
theorem tried_set {tr : List Bool} {k q : Nat} (h : triedAt tr q = true) : triedAt (tr.set k true) q = true := by
  unfold triedAt at *
  rw [List.getElem?_set]
  split
  · split <;> simp
  · exact h
theorem tried_new {tr : List Bool} {k : Nat} : triedAt (tr.set k true) k = true := by
  unfold triedAt
  rw [List.getElem?_set, if_pos rfl]
  split <;> simp
theorem untried_set : ∀ {tr : List Bool} {k : Nat}, tr[k]? = some false → untried (tr.set k true) + 1 = untried tr
  | [], k, h => by simp at h
  | b :: l, 0, h => by
    simp at h
    subst h
    simp [untried]
  | b :: l, k + 1, h => by
    have h1 := untried_set (tr := l) (k := k) (by simpa using h)
    unfold untried at *
    simp only [List.set_cons_succ, List.countP_cons]
    omega
theorem untried_le : ∀ {tr tr' : List Bool}, tr'.length = tr.length → (∀ q, triedAt tr q = true → triedAt tr' q = true) → untried tr' ≤ untried tr
  | [], [], _, _ => Nat.le_refl _
  | a :: l, b :: l', hl, h => by
    have h1 := untried_le (tr := l) (tr' := l') (by simpa using hl) (fun q hq => by have := h (q + 1) (by simpa [triedAt] using hq); simpa [triedAt] using this)
    have h0 := h 0
    simp only [triedAt, List.getElem?_cons_zero, Option.getD_some] at h0
    unfold untried at *
    simp only [List.countP_cons]
    cases a <;> cases b <;> simp at * <;> omega
  | [], _ :: _, hl, _ => by simp at hl
  | _ :: _, [], hl, _ => by simp at hl
theorem row_mem {t : Tab} {N i : Nat} {x : Int} {j : Nat} (h : (rowOf (pairsL t N) i)[j]? = some x) : ∃ k : Nat, x = (k : Int) ∧ k < N ∧ May t i k := by
  have hm := List.mem_of_getElem? h
  unfold rowOf at hm
  rw [List.mem_map] at hm
  obtain ⟨⟨a, b⟩, hp, rfl⟩ := hm
  rw [List.mem_filter] at hp
  obtain ⟨h1, h2⟩ := hp
  have e : a = i := by simpa using h2
  subst e
  obtain ⟨_, h4, h5⟩ := pairs_lt h1
  exact ⟨b, rfl, h4, h5⟩
set_option maxRecDepth 100000 in
set_option maxHeartbeats 6400000 in
theorem give_any (Wb : World) (t : Tab) (u z : Value) (N Mv Sb Tb Gv MB O nb bb : Nat) (us : List Value) (hE : GiveEnv Wb t u z N Mv Sb Tb Gv MB O nb bb us) : ∀ (m i : Nat) (nx bf : List Int) (tr : List Bool) (W : World), GiveSt Wb N Tb nb bb nx bf tr W → Inv N (May t) nx bf → i < N → (∀ q : Nat, bf[q]? = some (i : Int) → triedAt tr q = true) → untried tr < m →
    Calls Tryz.prog 89 #[.int .i64 (i : Int), .pointer (some ⟨Mv, 0, none⟩), .pointer (some ⟨Sb, 0, none⟩), .pointer (some ⟨Tb, 0, none⟩), .pointer (some ⟨Gv, 0, none⟩)] W (GivesGive Wb t N Tb nb bb i nx bf tr) := by
  intro m
  induction m with
  | zero => intro i nx bf tr W _ _ _ _ h; exact absurd h (by omega)
  | succ m ih =>
    intro i nx bf tr W hst hinv hi htr hun
    have Ih := Lib.hid ih
    have Hst := Lib.hid hst
    have Hinv := Lib.hid hinv
    have Htr := Lib.hid htr
    have Hun := Lib.hid hun
    have HE := Lib.hid hE
    have hN12 := hE.n12
    have hMBW : W.heap[MB]? = _ := hst.keep hE.mb hE.dB
    obtain ⟨A, c, hu, hn, hbn⟩ := hE.row i hi
    obtain ⟨l, hl⟩ : ∃ l, rowOf (pairsL t N) i = l := ⟨_, rfl⟩
    rw [hl] at hu hn
    have Hl := Lib.hid hl
    have hmv := box_cells (hst.keep hE.mv hE.dM) 0
    have hmb := box_cells hMBW 4
    have hob := box_cells (hst.keep hE.ob hE.dO) i
    simp only [List.getElem?_toArray, List.getElem?_cons_zero, List.getElem?_cons_succ] at hmv hmb hob
    rw [hu] at hob
    have hll : l.length ≤ 1000 := by
      have h1 := rowOf_len (pairsL t N) i
      have h2 := pairsL_len t N
      rw [hl] at h1
      have h3 : N * N ≤ 12 * 12 := Nat.mul_le_mul hN12 hN12
      omega
    have Hn := Lib.hid hn
    have Hbn := Lib.hid hbn
    clear ih hst hinv htr hun hE hMBW hu hl hn hbn
    obtain ⟨n, hn⟩ : ∃ n, l.length = n := ⟨_, rfl⟩
    rw [hn] at hob hll Hn
    have Hnl := Lib.hid hn
    clear hn
    go_enter Tryz.func89, Tryz.ntmps89
    go_wp2
    clear hmv hmb hob
    go_loopw [17] (fun s wr => ∃ (j : Nat) (tr' : List Bool), j ≤ n ∧ s = .int .i64 (j : Int) ∧ GiveSt Wb N Tb nb bb nx bf tr' wr ∧ (∀ q, triedAt tr q = true → triedAt tr' q = true)) (fun s _ => n - (intOf s).toNat)
    case atStart => exact ⟨0, tr, by omega, rfl, Hst.out, fun _ h => h⟩
    case round =>
      obtain ⟨j, tr', hj, rfl, hsr, htt⟩ := hrel
      obtain ⟨wo, rfl⟩ : ∃ wo : World, wo = wr := ⟨_, rfl⟩
      have Hsr := Lib.hid hsr
      have Htt := Lib.hid htt
      clear hsr htt
      by_cases hlt : j < n
      · obtain ⟨b, o, x, eA, hx, hcx, hbl⟩ := Hn.out.at_ (k := j) (by rw [Hnl.out]; exact hlt)
        subst eA
        obtain ⟨k, rfl, hkN, hmay⟩ := row_mem (t := t) (N := N) (i := i) (j := j) (by rw [Hl.out]; exact hx)
        have hcw : wo.cell? ⟨b, o + j, none⟩ = some (.int .i64 (k : Int)) := Hsr.out.cell hcx (Hbn.out b o rfl)
        have Hmay := Lib.hid hmay
        have hsb := box_cells (Hsr.out.keep HE.out.sb HE.out.dS) k
        rw [List.getElem?_toArray, List.getElem?_replicate, if_pos (by omega)] at hsb
        have htb := box_cells Hsr.out.tbk k
        have hkt : k < tr'.length := by rw [Hsr.out.lt]; omega
        rw [List.getElem?_toArray, List.getElem?_map, List.getElem?_eq_getElem hkt, Option.map_some] at htb
        have htk : tr'[k]? = some tr'[k] := List.getElem?_eq_getElem hkt
        obtain ⟨bt, hbt⟩ : ∃ bt, tr'[k] = bt := ⟨_, rfl⟩
        rw [hbt] at htb htk
        have Htk := Lib.hid htk
        clear hx hcx hmay htk hbt hkt
        have Hlt12 := Lib.hid (Hst.out.lt)
        cases bt with
        | true =>
          go_wp2
          go_roundw
          case rel => exact ⟨j + 1, tr', by omega, by go_num, Hsr.out, Htt.out⟩
          case measure => simp [intOf]; omega
        | false =>
          have hk12 : (k : Int) < 12 := by omega
          have hft := box_frozen Hsr.out.tbk k
          go_upto_region 6 with (fail)
          refine wp_name (fun V => GiveSt Wb N Tb nb bb nx bf (tr'.set k true) V) (Hsr.out.setT HE.out.d2 k true) (fun w1 hs1 => ?_)
          have hk1 : triedAt (tr'.set k true) k = true := tried_new
          have ht1 : ∀ q, triedAt tr' q = true → triedAt (tr'.set k true) q = true := fun q hq => tried_set hq
          have hun1 := untried_set Htk.out
          have hunl := untried_le (tr := tr) (tr' := tr') (by rw [Hsr.out.lt, Hlt12.out]) Htt.out
          have htk0 : triedAt tr k = false := by
            cases e : triedAt tr k with
            | false => rfl
            | true =>
              have h2 := Htt.out k e
              unfold triedAt at h2
              rw [Htk.out] at h2
              cases h2
          obtain ⟨tr1, htr1⟩ : ∃ tr1, tr'.set k true = tr1 := ⟨_, rfl⟩
          rw [htr1] at hs1 hk1 ht1 hun1
          have Hs1 := Lib.hid hs1
          have Hk1 := Lib.hid hk1
          have Ht1 := Lib.hid (fun q hq => ht1 q (Htt.out q hq))
          have Hun1 := Lib.hid (show untried tr1 + 1 ≤ untried tr by omega)
          have Htk0 := Lib.hid htk0
          have c1 := box_cells (hs1.keep HE.out.mv HE.out.dM) 0
          have c2 := box_cells (hs1.keep HE.out.mb HE.out.dB) 6
          have c4 := box_cells (hs1.keep HE.out.gv HE.out.dG) 0
          simp only [List.getElem?_toArray, List.getElem?_cons_zero, List.getElem?_cons_succ] at c1 c2 c4
          have hkb : k < bf.length := by rw [hs1.lb]; exact hkN
          have c3 := box_cells hs1.bbk k
          rw [List.getElem?_toArray, List.getElem?_map, List.getElem?_eq_getElem hkb, Option.map_some] at c3
          have hbk := List.getElem?_eq_getElem hkb
          have hvb := Hinv.out.vb _ (List.getElem_mem hkb)
          obtain ⟨xv, hxv⟩ : ∃ xv, bf[k] = xv := ⟨_, rfl⟩
          rw [hxv] at c3 hbk hvb
          have Hbk := Lib.hid hbk
          clear hs1 hk1 ht1 hun1 hunl htk0 htr1 hbk hxv hkb hsb htb hcw hft
          by_cases hx1 : xv = -1
          · subst hx1
            have f1 := Later.cell c1
            have f2 := Later.cell c2
            have f3 := Later.cell c3
            refine wp_region_later (by kernel_rfl) (by kernel_rfl) ?_
            repeat (go_big_quiet_step (fail))
            refine wpQuiet_nil ?_
            intro w2 hx2
            have hb2 := Later.out hx2
            clear hx2 f1 f2 f3 c1 c2 c3 c4
            have Hs2 := Lib.hid (Hs1.out.below hb2)
            clear hb2
            have std := Hs2.out.below (Below.refl w2.heap.size w2).drew
            have hdM := HE.out.dM
            have hdB := HE.out.dB
            have e1 := fun (V : World) (tr : List Bool) (nx bf : List Int) (h : GiveSt Wb N Tb nb bb nx bf tr V) => box_cells (h.keep HE.out.mv HE.out.dM) 0
            have e2 := fun (V : World) (tr : List Bool) (nx bf : List Int) (h : GiveSt Wb N Tb nb bb nx bf tr V) => box_cells (h.keep HE.out.mb HE.out.dB) 5
            have e3 := fun (V : World) (tr : List Bool) (nx bf : List Int) (h : GiveSt Wb N Tb nb bb nx bf tr V) => box_cells (h.keep HE.out.mb HE.out.dB) 6
            simp only [List.getElem?_toArray, List.getElem?_cons_zero, List.getElem?_cons_succ] at e1 e2 e3
            have HS := Lib.hid (fun (V : World) (tr : List Bool) (nx bf : List Int) (h : GiveSt Wb N Tb nb bb nx bf tr V) => (⟨e1 V tr nx bf h, e2 V tr nx bf h, e3 V tr nx bf h⟩ : (fun w' : World => w'.cell? ⟨Mv, 0, none⟩ = some (.pointer (some ⟨MB, 0, none⟩)) ∧ w'.cell? ⟨MB, 5, none⟩ = some (.slice (some ⟨nb, 0, none⟩) N N) ∧ w'.cell? ⟨MB, 6, none⟩ = some (.slice (some ⟨bb, 0, none⟩) N N)) V))
            clear e1 e2 e3
            have std2 := std.setN HE.out.d1 HE.out.d2 i (k : Int)
            have std3 := std2.setB HE.out.d1 HE.out.d2 k (i : Int)
            have Std := Lib.hid std
            have Std2 := Lib.hid std2
            have Std3 := Lib.hid std3
            obtain ⟨ov1, o1⟩ : ∃ x : Int, w2.drew.cell? ⟨nb, i, none⟩ = some (.int .i64 x) := ⟨_, by rw [box_cells std.nbk i, List.getElem?_toArray, List.getElem?_map, List.getElem?_eq_getElem (by rw [std.ln]; exact hi), Option.map_some]⟩
            obtain ⟨ov2, o2⟩ : ∃ x : Int, (w2.drew.setCell ⟨nb, i, none⟩ (.int .i64 (k : Int))).cell? ⟨bb, k, none⟩ = some (.int .i64 x) := ⟨_, by rw [box_cells std2.bbk k, List.getElem?_toArray, List.getElem?_map, List.getElem?_eq_getElem (by rw [std2.lb]; exact hkN), Option.map_some]⟩
            have z1 := box_frozen std.nbk i
            have z2 := box_frozen std2.bbk k
            clear std std2 std3 hdM hdB
            go_upto_region 7 with (fail)
            refine wp_region_noPanic ?_
            refine wp_region_pick [0, 1, 2, 3, 4, 5, 6, 7, 8, 9, 10, 11] [12, 13, 14, 15] (fun _ => true) (fun w' : World => w'.cell? ⟨Mv, 0, none⟩ = some (.pointer (some ⟨MB, 0, none⟩)) ∧ w'.cell? ⟨MB, 5, none⟩ = some (.slice (some ⟨nb, 0, none⟩) N N) ∧ w'.cell? ⟨MB, 6, none⟩ = some (.slice (some ⟨bb, 0, none⟩) N N)) (by kernel_rfl) (by kernel_rfl) (fun _ _ _ _ _ h => h) (HS.out _ _ _ _ Std.out) (fun hne => ?_)
            have m0 := fun z : Meets (fun w' : World => w'.cell? ⟨Mv, 0, none⟩ = some (.pointer (some ⟨MB, 0, none⟩)) ∧ w'.cell? ⟨MB, 5, none⟩ = some (.slice (some ⟨nb, 0, none⟩) N N) ∧ w'.cell? ⟨MB, 6, none⟩ = some (.slice (some ⟨bb, 0, none⟩) N N)) => z.property
            have n0 := fun z => (m0 z).1
            have n1 := fun z => (m0 z).2.1
            have n2 := fun z => (m0 z).2.2
            clear m0
            simp only [pick, pickN, List.filterMap_cons, List.filterMap_nil, List.getElem?_cons_zero, List.getElem?_cons_succ, Option.map_some]
            repeat (change wpQuiet _ _ _ _ (_ :: _) _; go_big_quiet_step (fail))
            refine wpQuiet_nil ?_
            clear n0 n1 n2 hne
            refine wpSeqP_step (fun K hK => ?_)
            go_simp
            refine hK.out _ w2.drew (fun _ => HS.out _ _ _ _ Std.out) ?_
            clear hK K
            refine wpSeqP_step (fun K hK => ?_)
            go_simp
            refine hK.out _ (w2.drew.setCell ⟨nb, i, none⟩ (.int .i64 (k : Int))) (fun _ => HS.out _ _ _ _ Std2.out) ?_
            clear hK K
            generalize w2.drew.setCell ⟨nb, i, none⟩ (.int .i64 (k : Int)) = wv at *
            refine wpSeqP_step (fun K hK => ?_)
            go_simp
            refine hK.out _ wv (fun _ => HS.out _ _ _ _ Std2.out) ?_
            clear hK K
            refine wpSeqP_step (fun K hK => ?_)
            go_simp
            refine hK.out _ (wv.setCell ⟨bb, k, none⟩ (.int .i64 (i : Int))) (fun _ => HS.out _ _ _ _ Std3.out) ?_
            clear hK K
            refine wpSeqP_nil ?_
            refine NoPanic.normal ?_
            go_wp2
            go_ret
            exact ⟨true, nx.set i (k : Int), bf.set k (i : Int), tr1, rfl, Std3.out, Ht1.out, fun h => (by cases h), fun _ => gave_free Hinv.out hi hkN Hmay.out Htk0.out Hbk.out Htr.out⟩
          · have hx2 : 0 ≤ xv := by omega
            clear hvb hx1
            obtain ⟨q, hq⟩ : ∃ q : Nat, xv = (q : Int) := ⟨xv.toNat, by omega⟩
            subst hq
            have hbq := Hbk.out
            have hinv := Hinv.out
            obtain ⟨hqN, hnq, _⟩ := hinv.fwd k q hbq
            have hneI : (((q : Int)) == (-1 : Int)) = false := by rw [Bool.eq_false_iff]; simp only [ne_eq, beq_iff_eq]; omega
            have hcall := Ih.out q nx bf tr1 w1.drew (Hs1.out.below (Below.refl w1.heap.size w1).drew) hinv hqN (fun p hp => by
              have := (hinv.fwd p q hp).2.1
              rw [hnq] at this
              have e : k = p := by have := Option.some.inj this; omega
              rw [← e]
              exact Hk1.out) (by have := Hun1.out; have := Hun.out; omega)
            have Hcall := Lib.hid hcall
            clear hbq hinv hnq hcall
            refine wp_region_noPanic ?_
            refine wp_region_pick [0, 1, 2, 3, 4, 5, 6, 7, 8, 9, 10, 11, 12, 13, 14, 15, 16] [17, 18] (fun _ => true) (fun w' : World => w'.cell? ⟨Mv, 0, none⟩ = some (.pointer (some ⟨MB, 0, none⟩)) ∧ w'.cell? ⟨MB, 6, none⟩ = some (.slice (some ⟨bb, 0, none⟩) N N) ∧ w'.cell? ⟨bb, k, none⟩ = some (.int .i64 (q : Int)) ∧ w'.cell? ⟨Gv, 0, none⟩ = some (.func (.func 89) #[] #[.pointer (some ⟨Mv, 0, none⟩), .pointer (some ⟨Sb, 0, none⟩), .pointer (some ⟨Tb, 0, none⟩), .pointer (some ⟨Gv, 0, none⟩)])) (by kernel_rfl) (by kernel_rfl) (fun _ _ _ _ _ h => h) ⟨c1, c2, c3, c4⟩ (fun hne => ?_)
            have m0 := fun z : Meets (fun w' : World => w'.cell? ⟨Mv, 0, none⟩ = some (.pointer (some ⟨MB, 0, none⟩)) ∧ w'.cell? ⟨MB, 6, none⟩ = some (.slice (some ⟨bb, 0, none⟩) N N) ∧ w'.cell? ⟨bb, k, none⟩ = some (.int .i64 (q : Int)) ∧ w'.cell? ⟨Gv, 0, none⟩ = some (.func (.func 89) #[] #[.pointer (some ⟨Mv, 0, none⟩), .pointer (some ⟨Sb, 0, none⟩), .pointer (some ⟨Tb, 0, none⟩), .pointer (some ⟨Gv, 0, none⟩)])) => z.property
            have n0 := fun z => (m0 z).1
            have n1 := fun z => (m0 z).2.1
            have n2 := fun z => (m0 z).2.2.1
            have n3 := fun z => (m0 z).2.2.2
            clear m0
            simp only [pick, pickN, List.filterMap_cons, List.filterMap_nil, List.getElem?_cons_zero, List.getElem?_cons_succ, Option.map_some]
            repeat (change wpQuiet _ _ _ _ (_ :: _) _; go_big_quiet_step (fail))
            refine wpQuiet_nil ?_
            clear n0 n1 n2 n3 hne
            refine wpSeqP_step (fun K hK => ?_)
            go_simp
            refine Hcall.out.mono ?_
            rintro e w2 ⟨r, nx2, bf2, tr2, rfl, hs2, hgrow, hF, hT⟩
            have hbk2 : bf2[k]? = some (q : Int) := by
              cases r with
              | false => rw [(hF rfl).2]; exact Hbk.out
              | true => rw [(hT rfl).old k Hk1.out]; exact Hbk.out
            have d1 := box_cells (hs2.keep HE.out.mv HE.out.dM) 0
            have d2 := box_cells (hs2.keep HE.out.mb HE.out.dB) 6
            have d4 := box_cells (hs2.keep HE.out.gv HE.out.dG) 0
            have d3 := box_cells hs2.bbk k
            rw [List.getElem?_toArray, List.getElem?_map, hbk2, Option.map_some] at d3
            simp only [List.getElem?_toArray, List.getElem?_cons_zero, List.getElem?_cons_succ] at d1 d2 d4
            have HD := Lib.hid (show (fun w' : World => w'.cell? ⟨Mv, 0, none⟩ = some (.pointer (some ⟨MB, 0, none⟩)) ∧ w'.cell? ⟨MB, 6, none⟩ = some (.slice (some ⟨bb, 0, none⟩) N N) ∧ w'.cell? ⟨bb, k, none⟩ = some (.int .i64 (q : Int)) ∧ w'.cell? ⟨Gv, 0, none⟩ = some (.func (.func 89) #[] #[.pointer (some ⟨Mv, 0, none⟩), .pointer (some ⟨Sb, 0, none⟩), .pointer (some ⟨Tb, 0, none⟩), .pointer (some ⟨Gv, 0, none⟩)])) w2 from ⟨d1, d2, d3, d4⟩)
            have Hs2 := Lib.hid hs2
            have Ht2 := Lib.hid (fun p hp => hgrow p (Ht1.out p hp))
            have HF2 := Lib.hid hF
            have HT2 := Lib.hid hT
            clear hs2 hgrow hF hT hbk2 d1 d2 d3 d4 c1 c2 c3 c4 Hcall
            refine hK.out _ w2 (fun _ => HD.out) ?_
            clear hK K
            refine wpSeqP_step (fun K hK => ?_)
            go_simp
            refine hK.out _ w2 (fun _ => HD.out) ?_
            clear hK K
            refine wpSeqP_nil ?_
            refine NoPanic.normal ?_
            cases r with
            | false =>
              obtain ⟨rfl, rfl⟩ := HF2.out rfl
              go_wp2
              go_roundw
              case rel => exact ⟨j + 1, tr2, by omega, by go_num, Hs2.out, Ht2.out⟩
              case measure => simp [intOf]; omega
            | true =>
                have std := Hs2.out.below (Below.refl w2.heap.size w2).drew
                have hdM := HE.out.dM
                have hdB := HE.out.dB
                have e1 := fun (V : World) (tr : List Bool) (nx bf : List Int) (h : GiveSt Wb N Tb nb bb nx bf tr V) => box_cells (h.keep HE.out.mv HE.out.dM) 0
                have e2 := fun (V : World) (tr : List Bool) (nx bf : List Int) (h : GiveSt Wb N Tb nb bb nx bf tr V) => box_cells (h.keep HE.out.mb HE.out.dB) 5
                have e3 := fun (V : World) (tr : List Bool) (nx bf : List Int) (h : GiveSt Wb N Tb nb bb nx bf tr V) => box_cells (h.keep HE.out.mb HE.out.dB) 6
                simp only [List.getElem?_toArray, List.getElem?_cons_zero, List.getElem?_cons_succ] at e1 e2 e3
                have HS := Lib.hid (fun (V : World) (tr : List Bool) (nx bf : List Int) (h : GiveSt Wb N Tb nb bb nx bf tr V) => (⟨e1 V tr nx bf h, e2 V tr nx bf h, e3 V tr nx bf h⟩ : (fun w' : World => w'.cell? ⟨Mv, 0, none⟩ = some (.pointer (some ⟨MB, 0, none⟩)) ∧ w'.cell? ⟨MB, 5, none⟩ = some (.slice (some ⟨nb, 0, none⟩) N N) ∧ w'.cell? ⟨MB, 6, none⟩ = some (.slice (some ⟨bb, 0, none⟩) N N)) V))
                clear e1 e2 e3
                have std2 := std.setN HE.out.d1 HE.out.d2 i (k : Int)
                have std3 := std2.setB HE.out.d1 HE.out.d2 k (i : Int)
                have Std := Lib.hid std
                have Std2 := Lib.hid std2
                have Std3 := Lib.hid std3
                obtain ⟨ov1, o1⟩ : ∃ x : Int, w2.drew.cell? ⟨nb, i, none⟩ = some (.int .i64 x) := ⟨_, by rw [box_cells std.nbk i, List.getElem?_toArray, List.getElem?_map, List.getElem?_eq_getElem (by rw [std.ln]; exact hi), Option.map_some]⟩
                obtain ⟨ov2, o2⟩ : ∃ x : Int, (w2.drew.setCell ⟨nb, i, none⟩ (.int .i64 (k : Int))).cell? ⟨bb, k, none⟩ = some (.int .i64 x) := ⟨_, by rw [box_cells std2.bbk k, List.getElem?_toArray, List.getElem?_map, List.getElem?_eq_getElem (by rw [std2.lb]; exact hkN), Option.map_some]⟩
                have z1 := box_frozen std.nbk i
                have z2 := box_frozen std2.bbk k
                clear std std2 std3 hdM hdB
                go_upto_region 7 with (fail)
                refine wp_region_noPanic ?_
                refine wp_region_pick [0, 1, 2, 3, 4, 5, 6, 7, 8, 9, 10, 11] [12, 13, 14, 15] (fun _ => true) (fun w' : World => w'.cell? ⟨Mv, 0, none⟩ = some (.pointer (some ⟨MB, 0, none⟩)) ∧ w'.cell? ⟨MB, 5, none⟩ = some (.slice (some ⟨nb, 0, none⟩) N N) ∧ w'.cell? ⟨MB, 6, none⟩ = some (.slice (some ⟨bb, 0, none⟩) N N)) (by kernel_rfl) (by kernel_rfl) (fun _ _ _ _ _ h => h) (HS.out _ _ _ _ Std.out) (fun hne => ?_)
                have m0 := fun z : Meets (fun w' : World => w'.cell? ⟨Mv, 0, none⟩ = some (.pointer (some ⟨MB, 0, none⟩)) ∧ w'.cell? ⟨MB, 5, none⟩ = some (.slice (some ⟨nb, 0, none⟩) N N) ∧ w'.cell? ⟨MB, 6, none⟩ = some (.slice (some ⟨bb, 0, none⟩) N N)) => z.property
                have n0 := fun z => (m0 z).1
                have n1 := fun z => (m0 z).2.1
                have n2 := fun z => (m0 z).2.2
                clear m0
                simp only [pick, pickN, List.filterMap_cons, List.filterMap_nil, List.getElem?_cons_zero, List.getElem?_cons_succ, Option.map_some]
                repeat (change wpQuiet _ _ _ _ (_ :: _) _; go_big_quiet_step (fail))
                refine wpQuiet_nil ?_
                clear n0 n1 n2 hne
                refine wpSeqP_step (fun K hK => ?_)
                go_simp
                refine hK.out _ w2.drew (fun _ => HS.out _ _ _ _ Std.out) ?_
                clear hK K
                refine wpSeqP_step (fun K hK => ?_)
                go_simp
                refine hK.out _ (w2.drew.setCell ⟨nb, i, none⟩ (.int .i64 (k : Int))) (fun _ => HS.out _ _ _ _ Std2.out) ?_
                clear hK K
                generalize w2.drew.setCell ⟨nb, i, none⟩ (.int .i64 (k : Int)) = wv at *
                refine wpSeqP_step (fun K hK => ?_)
                go_simp
                refine hK.out _ wv (fun _ => HS.out _ _ _ _ Std2.out) ?_
                clear hK K
                refine wpSeqP_step (fun K hK => ?_)
                go_simp
                refine hK.out _ (wv.setCell ⟨bb, k, none⟩ (.int .i64 (i : Int))) (fun _ => HS.out _ _ _ _ Std3.out) ?_
                clear hK K
                refine wpSeqP_nil ?_
                refine NoPanic.normal ?_
                go_wp2
                go_ret
                exact ⟨true, nx2.set i (k : Int), bf2.set k (i : Int), tr2, rfl, Std3.out, Ht2.out, fun h => (by cases h), fun _ => gave_more Hinv.out hi hkN Hmay.out Htk0.out Hbk.out Htr.out Ht1.out Hk1.out (by first | exact HT2.out trivial | exact HT2.out rfl)⟩
      · obtain rfl : j = n := by omega
        go_wp2
        go_ret
        exact ⟨false, nx, bf, tr', rfl, Hsr.out, Htt.out, fun _ => ⟨rfl, rfl⟩, fun h => by cases h⟩
end Go.Proofs.YtckgapeednokjaaGreat
