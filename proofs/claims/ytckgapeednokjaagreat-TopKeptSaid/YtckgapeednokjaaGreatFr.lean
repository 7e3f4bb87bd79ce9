import Derived.Test.YtckgapeednokjaaGreatRows
import Derived.Test.YtckgapeednokjaaGreatK2
import Derived.ProofKit
import Derived.Deep.Slices
import Derived.Lib.SmallJoins
import Derived.Carry
import Derived.Below
import Derived.ChangeSame
import Derived.OpenShut
import Derived.WideKeyArgs
set_option linter.unusedVariables false
set_option linter.unusedSimpArgs false
namespace Go.Proofs.YtckgapeednokjaaGreat
open Go Go.RowKit Go.ChangeShapes Go.WideShapes Go.ChangeAt Go.Deep Go.Joins

/-! ### Arguments, opened -/
theorem list_of_each {α : Type} {n : Nat} {p : Nat → α → Prop} (h : ∀ i, i < n → ∃ a, p i a) : ∃ l : List α, l.length = n ∧ ∀ i a, l[i]? = some a → p i a := by
  induction n with
  | zero => exact ⟨[], rfl, by simp⟩
  | succ n ih =>
    obtain ⟨l, h1, h2⟩ := ih fun i hi => h i (by omega)
    obtain ⟨a, ha⟩ := h n (by omega)
    refine ⟨l ++ [a], by simp [h1], fun i b hb => ?_⟩
    rw [List.getElem?_append] at hb
    split at hb
    · exact h2 i b hb
    · rename_i hi
      have hlt := (List.getElem?_eq_some_iff.1 hb).1
      simp at hlt
      obtain rfl : i = n := by omega
      rw [h1] at hb
      simp at hb
      subst hb
      exact ha

section
variable {H : Type} {enc : TypeId × Value → H} {w : World} {base : Nat} {spare : Nat → Bool} {held : Bool}

theorem addr_none {a : Addr} {v : Value} (h : w.cell? a = some v) : a = ⟨a.block, a.off, none⟩ := by
  obtain ⟨b, o, s⟩ := a
  cases s with
  | none => rfl
  | some s =>
    unfold World.cell? at h
    split at h <;> simp at h

theorem nums_open {t e : TypeId} {K : IntKind} {fuel : Nat} {v : Value} {x : DataW H × List MemPlace} (ht : Tryz.prog.underlying t = some (.slice e)) (he : Tryz.prog.underlying e = some (.int K)) (hc : Tryz.prog.cellsOf e = 1)
    (h : DataW.trod enc Tryz.prog w base spare held fuel t [v] = some x) : ∃ l, NumsAt K w v l := by
  rcases open_ints ht he hc h with ⟨h1, _⟩ | ⟨a, len, cap, zs, h1, _, hl, hm, hz, _, hat, _⟩
  · obtain rfl : v = .slice none 0 0 := by simpa using h1
    exact ⟨[], none, 0, rfl, by simp, by simp [maxLen], by simp⟩
  · obtain rfl : v = .slice (some a) len cap := by simpa using h1
    have hzl : len ≤ zs.length := by rw [hz]; split <;> omega
    refine ⟨zs.take len, some a, cap, ?_, by simp; omega, hm, fun hp => ?_⟩
    · rw [List.length_take, Nat.min_eq_left hzl]
    · rw [List.length_take, Nat.min_eq_left hzl] at hp
      have h0 := hat 0 (by omega)
      rw [show a.add 0 = a by simp [Addr.add]] at h0
      have ha := addr_none h0
      refine ⟨a.block, a.off, by rw [← ha], fun k hk => ?_⟩
      rw [List.length_take, Nat.min_eq_left hzl] at hk
      have hk' := hat k (by omega)
      rw [ha] at hk'
      have e1 : (Addr.add ⟨a.block, a.off, none⟩ k) = ⟨a.block, a.off + k, none⟩ := by
        unfold Addr.add
        split
        · rename_i h; subst h; rfl
        · rfl
      rw [e1] at hk'
      rw [hk', List.getElem?_take, if_pos hk, List.getD_eq_getElem?_getD]

theorem add_none {b o k : Nat} : (Addr.add ⟨b, o, none⟩ k) = ⟨b, o + k, none⟩ := by
  unfold Addr.add
  split
  · rename_i h; subst h; rfl
  · rfl

theorem rows_open {fuel : Nat} {v : Value} {x : DataW H × List MemPlace} (h : DataW.trod enc Tryz.prog w base spare held fuel 45 [v] = some x) : ∃ ll, RowsAt w v ll := by
  have ce : Tryz.prog.cellsOf 29 = 1 := by kernel_rfl
  rcases open_slice Tryz.underlying45 h with ⟨h1, _⟩ | ⟨a, len, cap, m, n, D, Pl, h1, _, hl, hm, hmm, _, hat⟩
  · obtain rfl : v = .slice none 0 0 := by simpa using h1
    exact ⟨[], none, 0, rfl, by simp, by simp [maxLen], by simp⟩
  · obtain rfl : v = .slice (some a) len cap := by simpa using h1
    have hml : len ≤ m := by rw [hmm]; split <;> omega
    have hel : ∀ i, i < len → ∃ l, ∃ u, w.cell? (a.add i) = some u ∧ NumsAt .i64 w u l := fun i hi => by
      obtain ⟨cs, hc, ht⟩ := hat i (by omega)
      rw [ce] at hc
      obtain ⟨_, hcl, hci⟩ := World.cells?_some hc
      match cs, hcl with
      | [u], _ =>
        obtain ⟨l, hl⟩ := nums_open Tryz.underlying29 Tryz.underlying3 (by kernel_rfl) ht
        have := hci 0 (by omega)
        exact ⟨l, u, by simpa [Addr.add] using this, hl⟩
    obtain ⟨ll, hll, hp⟩ := list_of_each hel
    refine ⟨ll, some a, cap, by rw [hll], by omega, hm, fun hp0 => ?_⟩
    obtain ⟨u0, hu0, _⟩ := hp 0 _ (List.getElem?_eq_getElem (by omega))
    rw [show a.add 0 = a by simp [Addr.add]] at hu0
    have ha := addr_none hu0
    refine ⟨a.block, a.off, by rw [← ha], fun k hk => ?_⟩
    obtain ⟨u, hu, hn⟩ := hp k _ (List.getElem?_eq_getElem hk)
    rw [ha, add_none] at hu
    exact ⟨u, hu, by rw [List.getElem?_eq_getElem hk]; exact hn⟩


theorem rels_open {fuel : Nat} {v : Value} {x : DataW H × List MemPlace} (h : DataW.trod enc Tryz.prog w base spare held fuel 131 [v] = some x) : ∃ rs, RelsAt w v rs := by
  have ce : Tryz.prog.cellsOf 134 = 3 := by kernel_rfl
  rcases open_slice Tryz.underlying131 h with ⟨h1, _⟩ | ⟨a, len, cap, m, n, D, Pl, h1, _, hl, hm, hmm, _, hat⟩
  · obtain rfl : v = .slice none 0 0 := by simpa using h1
    exact ⟨[], none, 0, rfl, by simp, by simp [maxLen], by simp⟩
  · obtain rfl : v = .slice (some a) len cap := by simpa using h1
    have hml : len ≤ m := by rw [hmm]; split <;> omega
    have hel : ∀ i, i < len → ∃ s : Rel, w.cell? (a.add (i * 3)) = some (.int .i64 s.place) ∧ w.cell? ((a.add (i * 3)).add 1) = some (.int .i64 s.lo) ∧
        w.cell? ((a.add (i * 3)).add 2) = some (.int .i64 s.hi) := fun i hi => by
      obtain ⟨cs, hc, ht⟩ := hat i (by omega)
      rw [ce] at hc
      obtain ⟨_, hcl, hci⟩ := World.cells?_some hc
      match cs, hcl with
      | [c0, c1, c2], _ =>
        obtain ⟨xs, n', _, _, _, hxl, hf⟩ := DataW.trod_struct Tryz.underlying134 ht
        match xs, hxl with
        | [x0, x1], _ =>
          have f0 : DataW.trod enc Tryz.prog w base spare held n' 3 (List.take (Tryz.prog.cellsOf 3) (List.drop 0 [c0, c1, c2])) = some x0 := hf 0 _ rfl
          have f1 : DataW.trod enc Tryz.prog w base spare held n' 132 (List.take (Tryz.prog.cellsOf 132) (List.drop 1 [c0, c1, c2])) = some x1 := hf 1 _ rfl
          simp only [show Tryz.prog.cellsOf 3 = 1 by kernel_rfl, show Tryz.prog.cellsOf 132 = 2 by kernel_rfl, List.drop_zero, List.drop_succ_cons, List.take_succ_cons, List.take_zero] at f0 f1
          obtain ⟨ys, n2, _, _, _, hyl, hg⟩ := DataW.trod_struct Tryz.underlying132 f1
          match ys, hyl with
          | [y0, y1], _ =>
            have g0 : DataW.trod enc Tryz.prog w base spare held n2 3 (List.take (Tryz.prog.cellsOf 3) (List.drop 0 [c1, c2])) = some y0 := hg 0 _ rfl
            have g1 : DataW.trod enc Tryz.prog w base spare held n2 3 (List.take (Tryz.prog.cellsOf 3) (List.drop 1 [c1, c2])) = some y1 := hg 1 _ rfl
            simp only [show Tryz.prog.cellsOf 3 = 1 by kernel_rfl, List.drop_zero, List.drop_succ_cons, List.take_succ_cons, List.take_zero] at g0 g1
            obtain ⟨k0, ek0, _⟩ := DataW.trod_int Tryz.underlying3 f0
            obtain rfl : c0 = .int .i64 k0 := (List.cons.inj ek0).1
            obtain ⟨k1, ek1, _⟩ := DataW.trod_int Tryz.underlying3 g0
            obtain rfl : c1 = .int .i64 k1 := (List.cons.inj ek1).1
            obtain ⟨k2, ek2, _⟩ := DataW.trod_int Tryz.underlying3 g1
            obtain rfl : c2 = .int .i64 k2 := (List.cons.inj ek2).1
            exact ⟨⟨k0, k1, k2⟩, hci 0 (by omega), hci 1 (by omega), hci 2 (by omega)⟩
    obtain ⟨rs, hrs, hp⟩ := list_of_each hel
    refine ⟨rs, some a, cap, by rw [hrs], by omega, hm, fun hp0 => ?_⟩
    obtain ⟨h00, _⟩ := hp 0 _ (List.getElem?_eq_getElem (by omega))
    rw [show a.add (0 * 3) = a by simp [Addr.add]] at h00
    have ha := addr_none h00
    refine ⟨a.block, a.off, by rw [← ha], fun k s hk => ?_⟩
    obtain ⟨h0, h1, h2⟩ := hp k s hk
    rw [ha] at h0 h1 h2
    simp only [add_none] at h0 h1 h2
    exact ⟨h0, h1, h2⟩
theorem blocks_open {fuel : Nat} {v : Value} {x : DataW H × List MemPlace} (h : DataW.trod enc Tryz.prog w base spare held fuel 61 [v] = some x) : ∃ ll, BlocksAt w v ll := by
  have ce : Tryz.prog.cellsOf 131 = 1 := by kernel_rfl
  rcases open_slice Tryz.underlying61 h with ⟨h1, _⟩ | ⟨a, len, cap, m, n, D, Pl, h1, _, hl, hm, hmm, _, hat⟩
  · obtain rfl : v = .slice none 0 0 := by simpa using h1
    exact ⟨[], none, 0, rfl, by simp, by simp [maxLen], by simp⟩
  · obtain rfl : v = .slice (some a) len cap := by simpa using h1
    have hml : len ≤ m := by rw [hmm]; split <;> omega
    have hel : ∀ i, i < len → ∃ l, ∃ u, w.cell? (a.add i) = some u ∧ RelsAt w u l := fun i hi => by
      obtain ⟨cs, hc, ht⟩ := hat i (by omega)
      rw [ce] at hc
      obtain ⟨_, hcl, hci⟩ := World.cells?_some hc
      match cs, hcl with
      | [u], _ =>
        obtain ⟨l, hl⟩ := rels_open ht
        have := hci 0 (by omega)
        exact ⟨l, u, by simpa [Addr.add] using this, hl⟩
    obtain ⟨ll, hll, hp⟩ := list_of_each hel
    refine ⟨ll, some a, cap, by rw [hll], by omega, hm, fun hp0 => ?_⟩
    obtain ⟨u0, hu0, _⟩ := hp 0 _ (List.getElem?_eq_getElem (by omega))
    rw [show a.add 0 = a by simp [Addr.add]] at hu0
    have ha := addr_none hu0
    refine ⟨a.block, a.off, by rw [← ha], fun k l hk => ?_⟩
    obtain ⟨u, hu, hn⟩ := hp k l hk
    rw [ha, add_none] at hu
    exact ⟨u, hu, hn⟩
theorem nums_openW {t e : TypeId} {fuel : Nat} {v : Value} {x : DataW H × List MemPlace} (ht : Tryz.prog.underlying t = some (.slice e)) (he : Tryz.prog.underlying e = some (.int .u16)) (hc : Tryz.prog.cellsOf e = 1)
    (h : DataW.trod enc Tryz.prog w base spare held fuel t [v] = some x) : ∃ l, NumsAt .u16 w v l ∧ ∀ x ∈ l, 0 ≤ x ∧ x ≤ 65535 := by
  rcases open_ints ht he hc h with ⟨h1, _⟩ | ⟨a, len, cap, zs, h1, _, hl, hm, hz, _, hat, hwf⟩
  · obtain rfl : v = .slice none 0 0 := by simpa using h1
    exact ⟨[], ⟨none, 0, rfl, by simp, by simp [maxLen], by simp⟩, by simp⟩
  · obtain rfl : v = .slice (some a) len cap := by simpa using h1
    have hzl : len ≤ zs.length := by rw [hz]; split <;> omega
    refine ⟨zs.take len, ⟨some a, cap, ?_, by simp; omega, hm, fun hp => ?_⟩, fun y hy => ?_⟩
    · rw [List.length_take, Nat.min_eq_left hzl]
    · rw [List.length_take, Nat.min_eq_left hzl] at hp
      have h0 := hat 0 (by omega)
      rw [show a.add 0 = a by simp [Addr.add]] at h0
      have ha := addr_none h0
      refine ⟨a.block, a.off, by rw [← ha], fun k hk => ?_⟩
      rw [List.length_take, Nat.min_eq_left hzl] at hk
      have hk' := hat k (by omega)
      rw [ha] at hk'
      have e1 : (Addr.add ⟨a.block, a.off, none⟩ k) = ⟨a.block, a.off + k, none⟩ := by
        unfold Addr.add
        split
        · rename_i h; subst h; rfl
        · rfl
      rw [e1] at hk'
      rw [hk', List.getElem?_take, if_pos hk, List.getD_eq_getElem?_getD]
    · have := hwf y (List.mem_of_mem_take hy)
      simp [Lit.wf, IntKind.min, IntKind.max, IntKind.signed, IntKind.bits] at this
      omega
end

/-! ### The frame of a law's row -/
theorem own : ownKnob Tryz.prog.godebug = none := by kernel_rfl
theorem laidOut : laidOutB Tryz.prog = true := by kernel_rfl

section
variable {H : Type} {enc : TypeId × Value → H} {P : Program}
theorem trodAll_stays (hl : laidOutB P = true) {W W' : World} (hb : Below W.heap.size W W') {sp : Nat → Bool} : ∀ {ts : List TypeId} {vs : List Value} {ds : List (DataW H)} {ps : List MemPlace},
    (ts.all fun t => P.readableRec t && decide (t < P.types.size)) = true → DataW.TrodAll enc P W 0 (fun _ => true) true ts vs ds ps → (∀ x ∈ ps, x.block < W.heap.size) → (∀ x ∈ ps, sp x.block = true) →
    DataW.TrodAll enc P W' 0 sp true ts vs ds ps
  | [], vs, ds, ps, _, h, _, _ => by
    obtain ⟨rfl, rfl, rfl⟩ := trodAll_nil h
    exact trodAll_mk0
  | t :: ts, vs, ds, ps, hr, h, hlt, hs => by
    obtain ⟨v, vs', d, ds', p, q, rfl, rfl, rfl, h1, h2⟩ := trodAll_cons h
    simp only [List.all_cons, Bool.and_eq_true, decide_eq_true_eq] at hr
    exact trodAll_cons_mk (WideElems.Trod_stays hl hr.1.1 hr.1.2 h1 (fun x hx => hb.same (hlt x (by simp [hx]))) (fun x hx => hs x (by simp [hx])))
      (trodAll_stays hl hb (by simpa using hr.2) h2 (fun x hx => hlt x (by simp [hx])) (fun x hx => hs x (by simp [hx])))

/-- A law that hands back true, and has changed nothing that was there. -/
theorem law_post {f : Func} {s : ChangeSpec} {W W' : World} {args : Array Value} {ds : List (DataW H)} {before p : List MemPlace} {t : TypeId} (hl : laidOutB P = true) (hvr : s.vars = [])
    (hW : DataW.Whole enc P f.params.toList s.vars false W args.toList ds [] before) (hA : DataW.TrodAll enc P W 0 (fun _ => true) true f.params.toList args.toList ds p) (hp : before = p)
    (hr : (f.params.toList.all fun t => P.readableRec t && decide (t < P.types.size)) = true) (hres : f.resultTypes = #[t]) (ht : P.underlying t = some .bool) (hfn : s.fn H ds = { results := [.lit (.bool true)], args := ds })
    (hb : Below W.heap.size W W') : s.post enc P f false true false false W args (.bool true) W' := by
  subst hp
  have hlt : ∀ x ∈ before, x.block < W.heap.size := fun x hx => hW.lt x hx
  have hold : ∀ x ∈ before, (fun b => decide (b < W.heap.size)) x.block = true := fun x hx => by simpa using hlt x hx
  have hargs : ∀ sp : Nat → Bool, (∀ x ∈ before, sp x.block = true) → DataW.TrodAll enc P W' 0 sp true f.params.toList args.toList ds before := fun sp hs => trodAll_stays hl hb hr hA hlt hs
  have hres' : ∀ (b : Nat) (sp : Nat → Bool) (hd : Bool), DataW.TrodAll enc P W' b sp hd f.resultTypes.toList ((Value.bool true).resultList f.resultTypes.size) [DataW.lit (.bool true)] [] := fun b sp hd => by
    rw [hres]
    exact trodAll_mk1 (shut_bool ht _)
  have hv0 : ∀ sp : Nat → Bool, DataW.TrodVars enc P W' sp s.vars ([] : List (DataW H)) [] := fun sp => by rw [hvr]; rfl
  have hok := ok_one (P := P) (W' := W') hres rfl (okWide_bool_mk ht true)
  refine ⟨ds, [], before, [], before, [], hW, ?_, ?_, ?_, World.keptBut_mono (fun x hx => ⟨hx, ?_⟩) (hb.frame (· ∈ before)), fun h => by cases h⟩
  · rw [List.append_nil, hfn]; exact hres' _ _ _
  · rw [List.append_nil, hfn]; exact hargs _ hold
  · rw [List.append_nil, hfn]; exact hv0 _
  · exact Or.inr (by simpa using hx)
end
section
open Go.Joins Go.Deep
variable {H : Type} {enc : TypeId × Value → H} {W : World} {base : Nat} {spare : Nat → Bool} {held : Bool}
theorem array10 {α : Type} {cs : Array α} (h : cs.size = 10) : ∃ c0 c1 c2 c3 c4 c5 c6 c7 c8 c9, cs = #[c0, c1, c2, c3, c4, c5, c6, c7, c8, c9] := by
  obtain ⟨l⟩ := cs
  match l, h with
  | [c0, c1, c2, c3, c4, c5, c6, c7, c8, c9], _ => exact ⟨c0, c1, c2, c3, c4, c5, c6, c7, c8, c9, rfl⟩
set_option maxRecDepth 100000 in
theorem law_open {fuel : Nat} {c0 c1 c2 c3 c4 c5 c6 c7 : Value} {x : DataW H × List MemPlace} (h : DataW.trod enc Tryz.prog W base spare held fuel 50 [c0, c1, c2, c3, c4, c5, c6, c7] = some x) :
    ∃ L : DLaw, c0 = .int .i64 L.piece ∧ c1 = .int .i64 L.drive ∧ c2 = .int .i64 L.spread ∧ c3 = .int .i64 L.brk ∧ c4 = .int .i64 L.on ∧ c5 = .int .i64 L.off ∧ c6 = .int .i64 L.least ∧ c7 = .int .i64 L.pieces := by
  obtain ⟨xs, n, _, _, _, hxl, hf⟩ := DataW.trod_struct Tryz.underlying50 h
  have hx : xs.length = 8 := hxl
  have one : Tryz.prog.cellsOf 3 = 1 := by kernel_rfl
  have key : ∀ (k : Nat) (c : Value) (y : DataW H × List MemPlace), DataW.trod enc Tryz.prog W base spare held n 3 [c] = some y → ∃ z, c = .int .i64 z := fun k c y hy => by
    obtain ⟨z, ez, _⟩ := DataW.trod_int Tryz.underlying3 hy
    exact ⟨z, (List.cons.inj ez).1⟩
  match xs, hx with
  | [x0, x1, x2, x3, x4, x5, x6, x7], _ =>
    have f0 : DataW.trod enc Tryz.prog W base spare held n 3 (List.take (Tryz.prog.cellsOf 3) (List.drop 0 [c0, c1, c2, c3, c4, c5, c6, c7])) = some x0 := hf 0 _ rfl
    have f1 : DataW.trod enc Tryz.prog W base spare held n 3 (List.take (Tryz.prog.cellsOf 3) (List.drop 1 [c0, c1, c2, c3, c4, c5, c6, c7])) = some x1 := hf 1 _ rfl
    have f2 : DataW.trod enc Tryz.prog W base spare held n 3 (List.take (Tryz.prog.cellsOf 3) (List.drop 2 [c0, c1, c2, c3, c4, c5, c6, c7])) = some x2 := hf 2 _ rfl
    have f3 : DataW.trod enc Tryz.prog W base spare held n 3 (List.take (Tryz.prog.cellsOf 3) (List.drop 3 [c0, c1, c2, c3, c4, c5, c6, c7])) = some x3 := hf 3 _ rfl
    have f4 : DataW.trod enc Tryz.prog W base spare held n 3 (List.take (Tryz.prog.cellsOf 3) (List.drop 4 [c0, c1, c2, c3, c4, c5, c6, c7])) = some x4 := hf 4 _ rfl
    have f5 : DataW.trod enc Tryz.prog W base spare held n 3 (List.take (Tryz.prog.cellsOf 3) (List.drop 5 [c0, c1, c2, c3, c4, c5, c6, c7])) = some x5 := hf 5 _ rfl
    have f6 : DataW.trod enc Tryz.prog W base spare held n 3 (List.take (Tryz.prog.cellsOf 3) (List.drop 6 [c0, c1, c2, c3, c4, c5, c6, c7])) = some x6 := hf 6 _ rfl
    have f7 : DataW.trod enc Tryz.prog W base spare held n 3 (List.take (Tryz.prog.cellsOf 3) (List.drop 7 [c0, c1, c2, c3, c4, c5, c6, c7])) = some x7 := hf 7 _ rfl
    simp only [one, List.drop_zero, List.drop_succ_cons, List.take_succ_cons, List.take_zero] at f0 f1 f2 f3 f4 f5 f6 f7
    obtain ⟨z0, e0⟩ := key 0 _ _ f0
    obtain ⟨z1, e1⟩ := key 1 _ _ f1
    obtain ⟨z2, e2⟩ := key 2 _ _ f2
    obtain ⟨z3, e3⟩ := key 3 _ _ f3
    obtain ⟨z4, e4⟩ := key 4 _ _ f4
    obtain ⟨z5, e5⟩ := key 5 _ _ f5
    obtain ⟨z6, e6⟩ := key 6 _ _ f6
    obtain ⟨z7, e7⟩ := key 7 _ _ f7
    exact ⟨⟨z0, z1, z2, z3, z4, z5, z6, z7⟩, e0, e1, e2, e3, e4, e5, e6, e7⟩
set_option maxRecDepth 100000 in
theorem day_open {r : Reach} {b0 : Nat} {v : Value} {dt : DataW H} {p : List MemPlace}
    (hv : Value.okWide Tryz.prog W r b0 63 v) (h : DataW.Trod enc Tryz.prog W base spare held 63 v dt p) : ∃ (d : DDay) (u z : Value), v = .agg #[.int .i64 d.law.piece, .int .i64 d.law.drive, .int .i64 d.law.spread, .int .i64 d.law.brk, .int .i64 d.law.on, .int .i64 d.law.off, .int .i64 d.law.least, .int .i64 d.law.pieces, u, z] ∧ DayAt W u z d := by
  obtain ⟨cs, rfl, hsz⟩ := okWide_struct Tryz.underlying63 hv
  have h10 : Tryz.prog.cellsOf 63 = 10 := by kernel_rfl
  obtain ⟨c0, c1, c2, c3, c4, c5, c6, c7, c8, c9, rfl⟩ := array10 (hsz.trans h10)
  obtain ⟨fuel, hf0⟩ := h
  obtain ⟨xs, n, _, _, _, hxl, hf⟩ := DataW.trod_struct Tryz.underlying63 hf0
  have hx : xs.length = 3 := hxl
  match xs, hx with
  | [x0, x1, x2], _ =>
    have f0 : DataW.trod enc Tryz.prog W base spare held n 50 (List.take (Tryz.prog.cellsOf 50) (List.drop 0 [c0, c1, c2, c3, c4, c5, c6, c7, c8, c9])) = some x0 := hf 0 _ rfl
    have f1 : DataW.trod enc Tryz.prog W base spare held n 61 (List.take (Tryz.prog.cellsOf 61) (List.drop 8 [c0, c1, c2, c3, c4, c5, c6, c7, c8, c9])) = some x1 := hf 1 _ rfl
    have f2 : DataW.trod enc Tryz.prog W base spare held n 45 (List.take (Tryz.prog.cellsOf 45) (List.drop 9 [c0, c1, c2, c3, c4, c5, c6, c7, c8, c9])) = some x2 := hf 2 _ rfl
    simp only [show Tryz.prog.cellsOf 50 = 8 by kernel_rfl, show Tryz.prog.cellsOf 61 = 1 by kernel_rfl, show Tryz.prog.cellsOf 45 = 1 by kernel_rfl, List.drop_zero, List.drop_succ_cons, List.take_succ_cons, List.take_zero] at f0 f1 f2
    obtain ⟨L, rfl, rfl, rfl, rfl, rfl, rfl, rfl, rfl⟩ := law_open f0
    obtain ⟨bl, hbl⟩ := blocks_open f1
    obtain ⟨ll, hll⟩ := rows_open f2
    exact ⟨⟨L, bl, ll⟩, c8, c9, rfl, ⟨hbl, hll⟩⟩
set_option maxRecDepth 100000 in
theorem rows_arg {r : Reach} {b0 : Nat} {v : Value} {d : DataW H} {p : List MemPlace}
    (hv : Value.okWide Tryz.prog W r b0 45 v) (h : DataW.Trod enc Tryz.prog W base spare held 45 v d p) : ∃ ll, RowsAt W v ll := by
  obtain ⟨a, len, cap, rfl⟩ := okWide_slice Tryz.underlying45 hv
  obtain ⟨fuel, h1⟩ := h
  exact rows_open h1

set_option maxRecDepth 100000 in
theorem ints_arg {r : Reach} {b0 : Nat} {v : Value} {d : DataW H} {p : List MemPlace}
    (hv : Value.okWide Tryz.prog W r b0 29 v) (h : DataW.Trod enc Tryz.prog W base spare held 29 v d p) : ∃ ws, NumsAt .i64 W v ws := by
  obtain ⟨a, len, cap, rfl⟩ := okWide_slice Tryz.underlying29 hv
  obtain ⟨fuel, h1⟩ := h
  exact nums_open Tryz.underlying29 Tryz.underlying3 (by kernel_rfl) h1
end
end Go.Proofs.YtckgapeednokjaaGreat
