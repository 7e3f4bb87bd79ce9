import Derived.Test.YtllobkhdeahgpaaGreatZg
import Derived.Deep.CutRange
import Derived.Deep.Cut
set_option linter.unusedVariables false
set_option linter.unusedSimpArgs false
namespace Go.Proofs.YtllobkhdeahgpaaGreat
open Go Go.Proofs Go.RowKit

/-! ### Fewest -/
def frS (begins : List (List Nat)) (s : Nat) : Bool := !(begins.any fun l => l.contains s)
def downF (fr : Nat → Bool) (N : Nat) : Nat → Int
  | 0 => -1
  | j + 1 => if fr (N - 1 - j) then ((N - 1 - j : Nat) : Int) else downF fr N j
theorem downF_find (fr : Nat → Bool) (N : Nat) : ∀ j, j ≤ N → downF fr N j = match (List.range' (N - j) j).find? fr with
    | none => -1
    | some s => (s : Int)
  | 0, _ => rfl
  | j + 1, h => by
    have e : List.range' (N - (j + 1)) (j + 1) = (N - 1 - j) :: List.range' (N - j) j := by
      have e1 : N - (j + 1) + 1 = N - j := by omega
      have e2 : N - (j + 1) = N - 1 - j := by omega
      rw [List.range'_succ, e1, e2]
    rw [e, List.find?_cons]
    simp only [downF]
    rw [downF_find fr N j (by omega)]
    cases fr (N - 1 - j) <;> rfl
theorem downF_all (begins : List (List Nat)) (N : Nat) : downF (frS begins) N N = match freeS N begins with
    | none => -1
    | some s => (s : Int) := by
  rw [downF_find _ _ N (Nat.le_refl _), Nat.sub_self, ← List.range_eq_range']
  rfl
def hereK (begins : List (List Nat)) (s k : Nat) : Bool := (begins.take k).any fun l => l.contains s
theorem hereK_step {begins : List (List Nat)} {s k : Nat} {l : List Nat} (h : begins[k]? = some l) : hereK begins s (k + 1) = (hereK begins s k || l.contains s) := by
  have e : begins.take (k + 1) = begins.take k ++ [l] := by
    rw [List.take_add_one, h]; rfl
  unfold hereK
  rw [e, List.any_append]
  simp
theorem hereK_all (begins : List (List Nat)) (s : Nat) : hereK begins s begins.length = !(frS begins s) := by
  unfold hereK frS
  rw [List.take_length, Bool.not_not]
theorem has_nat (l : List Nat) (s : Nat) : decide ((s : Int) ∈ natsI l) = l.contains s := by
  rw [Bool.eq_iff_iff, List.contains_iff_mem, decide_eq_true_eq]
  exact mem_natsI
def fitK (begins : List (List Nat)) (s : Nat) (l : List Nat) (k : Nat) : Bool := l.contains s && (begins.take k).all fun b => b.all fun j => !l.contains j
def fitJ (f : Bool) (b l : List Nat) (j : Nat) : Bool := f && (b.take j).all fun x => !l.contains x
theorem fitK_step {begins : List (List Nat)} {s k : Nat} {l b : List Nat} (h : begins[k]? = some b) : fitJ (fitK begins s l k) b l b.length = fitK begins s l (k + 1) := by
  have e : begins.take (k + 1) = begins.take k ++ [b] := by
    rw [List.take_add_one, h]; rfl
  unfold fitK fitJ
  rw [e, List.all_append, List.take_length, Bool.and_assoc]
  simp
theorem fitJ_step {f : Bool} {b l : List Nat} {j x : Nat} (h : b[j]? = some x) : fitJ f b l (j + 1) = (fitJ f b l j && !l.contains x) := by
  have e : b.take (j + 1) = b.take j ++ [x] := by
    rw [List.take_add_one, h]; rfl
  unfold fitJ
  rw [e, List.all_append, Bool.and_assoc]
  simp
theorem fitK_zero (begins : List (List Nat)) (s : Nat) (l : List Nat) : fitK begins s l 0 = l.contains s := by simp [fitK]
theorem fitJ_zero (f : Bool) (b l : List Nat) : fitJ f b l 0 = f := by simp [fitJ]
theorem fitK_all (begins : List (List Nat)) (s : Nat) (l : List Nat) : fitK begins s l begins.length = fitsL begins s l := by
  unfold fitK fitsL
  rw [List.take_length]
def facc (d : DDay) (f : Nat) (begins : List (List Nat)) (s k : Nat) : Int × Int := ((legalDs d).take k).foldl (fun acc l => if fitsL begins s l then fewStep (fewL d f (begins ++ [l])) acc else acc) (-1, 0)
theorem facc_step {d : DDay} {f : Nat} {begins : List (List Nat)} {s k : Nat} {l : List Nat} (h : (legalDs d)[k]? = some l) :
    facc d f begins s (k + 1) = if fitsL begins s l then fewStep (fewL d f (begins ++ [l])) (facc d f begins s k) else facc d f begins s k := by
  have e : (legalDs d).take (k + 1) = (legalDs d).take k ++ [l] := by
    rw [List.take_add_one, h]; rfl
  unfold facc
  rw [e, List.foldl_append]
  rfl
theorem few_none {d : DDay} {begins : List (List Nat)} (h : freeS (segN d.blocks) begins = none) : ∀ f, fewL d f begins = ((begins.length : Int), payS d begins)
  | 0 => rfl
  | f + 1 => by simp only [fewL]; rw [h]; rfl
theorem few_some {d : DDay} {begins : List (List Nat)} {s f : Nat} (h : freeS (segN d.blocks) begins = some s) : fewL d (f + 1) begins = facc d f begins s (legalDs d).length := by
  simp only [fewL]
  rw [h]
  unfold facc
  rw [List.take_length]
theorem restM_snoc {n s : Nat} {begins : List (List Nat)} {l : List Nat} (hn : n ≤ 16) (h : freeS n begins = some s) (hf : fitsL begins s l = true) : restM n (begins ++ [l]) < restM n begins := by
  obtain ⟨h1, _, _⟩ := free_some hn h
  have hs : sub (restM n (begins ++ [l])) (restM n begins) := sub_of_bits fun i hi => by
    rw [restM_bit, List.any_append] at hi
    rw [restM_bit]
    simp only [Bool.and_eq_true, Bool.not_eq_true', Bool.or_eq_false_iff] at hi ⊢
    exact ⟨hi.1, hi.2.1⟩
  have hne : restM n (begins ++ [l]) ≠ restM n begins := fun e => by
    rw [← e, restM_bit, List.any_append] at h1
    unfold fitsL at hf
    simp only [Bool.and_eq_true] at hf
    rw [List.any_cons, hf.1] at h1
    simp at h1
  have := sub_le hs
  omega
theorem each_list {α : Type} {n : Nat} {p : Nat → α → Prop} (h : ∀ i, i < n → ∃ a, p i a) : ∃ l : List α, l.length = n ∧ ∀ i a, l[i]? = some a → p i a := by
  induction n with
  | zero => exact ⟨[], rfl, by simp⟩
  | succ n ih =>
    obtain ⟨l, h1, h2⟩ := ih fun i hi => h i (by omega)
    obtain ⟨a, ha⟩ := h n (by omega)
    refine ⟨l ++ [a], by simp [h1], fun i b hb => ?_⟩
    rw [List.getElem?_append] at hb
    split at hb
    · exact h2 i b hb
    · rename_i hi
      have hlt := (List.getElem?_eq_some_iff.1 hb).1
      simp at hlt
      obtain rfl : i = n := by omega
      rw [h1] at hb
      simp at hb
      subst hb
      exact ha
/-- Slices that read as these lists, in whatever memory. -/
def RowsIn (w : World) (us : List Value) (ll : List (List Int)) : Prop := us.length = ll.length ∧ ∀ (j : Nat) (l : List Int), ll[j]? = some l → ∃ u, us[j]? = some u ∧ NumsAt .i64 w u l
theorem RowsIn.below {w w' : World} {us : List Value} {ll : List (List Int)} (h : RowsIn w us ll) (hb : Below w.heap.size w w') : RowsIn w' us ll :=
  ⟨h.1, fun j l hl => by obtain ⟨u, h1, h2⟩ := h.2 j l hl; exact ⟨u, h1, h2.below hb⟩⟩
theorem RowsIn.snoc {w : World} {us : List Value} {ll : List (List Int)} {u : Value} {l : List Int} (h : RowsIn w us ll) (hu : NumsAt .i64 w u l) : RowsIn w (us ++ [u]) (ll ++ [l]) := by
  refine ⟨by simp [h.1], fun j l' hl => ?_⟩
  rw [List.getElem?_append] at hl
  split at hl
  · obtain ⟨x, h1, h2⟩ := h.2 j l' hl
    exact ⟨x, by rw [List.getElem?_append_left (by rw [h.1]; assumption)]; exact h1, h2⟩
  · rename_i hj
    have e : j = ll.length := by
      have := (List.getElem?_eq_some_iff.1 hl).1
      simp at this
      omega
    subst e
    simp at hl
    subst hl
    exact ⟨u, by rw [← h.1]; simp, hu⟩
theorem RowsIn.one {w : World} {us : List Value} {ll : List (List Int)} (h : RowsIn w us ll) : ∀ u ∈ us, u.oneCell' = true := fun u hu => by
  obtain ⟨j, hj, rfl⟩ := List.getElem_of_mem hu
  obtain ⟨x, h1, h2⟩ := h.2 j (ll[j]'(by rw [← h.1]; exact hj)) (List.getElem?_eq_getElem _)
  rw [List.getElem?_eq_getElem hj] at h1
  cases h1
  obtain ⟨A, c, e, _⟩ := h2.form
  rw [e]
  rfl
theorem rows_src {w : World} {A : Option Addr} {n c : Nat} {ll : List (List Int)} (h : RowsAt w (.slice A n c) ll) : ∃ us, Src w A n 1 us ∧ RowsIn w us ll := by
  obtain ⟨A', c', e, h1, h2, h3⟩ := h
  cases e
  rcases Nat.eq_zero_or_pos ll.length with h0 | h0
  · have : ll = [] := List.eq_nil_of_length_eq_zero h0
    subst this
    exact ⟨[], ⟨rfl, by simp⟩, rfl, by simp⟩
  · obtain ⟨b, o, rfl, hc⟩ := h3 h0
    obtain ⟨us, hus, hp⟩ := each_list (n := ll.length) (p := fun k u => w.cell? ⟨b, o + k, none⟩ = some u ∧ NumsAt .i64 w u (ll[k]?.getD [])) hc
    refine ⟨us, ⟨by omega, fun _ => ⟨_, rfl, fun j u hu => ?_⟩⟩, hus, fun j l hl => ?_⟩
    · have := (hp j u hu).1
      rw [Addr.add_lit]
      exact this
    · have hj := (List.getElem?_eq_some_iff.1 hl).1
      have hju : j < us.length := by omega
      have := (hp j _ (List.getElem?_eq_getElem hju)).2
      rw [hl] at this
      exact ⟨_, List.getElem?_eq_getElem hju, this⟩
theorem rows_of_in {w : World} {base : Nat} {e : TypeId} {v : Value} {n : Nat} {us : List Value} {ll : List (List Int)} (h : w.ownsRow base e 1 v n us) (hr : RowsIn w us ll) : RowsAt w v ll := by
  have hn : ll.length = n := by rw [← hr.1]; simpa using h.1
  rcases h.2 with ⟨rfl, h0⟩ | ⟨g, cap, cur, rfl, _, hg, hc, hm, hs, ht⟩
  · have : ll = [] := List.eq_nil_of_length_eq_zero (by omega)
    subst this
    exact ⟨none, 0, rfl, by simp, by simp [maxLen], by simp⟩
  · subst hn
    refine ⟨_, cap, rfl, hc, hm, fun hp => ⟨g, 0, rfl, fun k hk => ?_⟩⟩
    obtain ⟨u, h1, h2⟩ := hr.2 k _ (List.getElem?_eq_getElem hk)
    rw [List.getElem?_eq_getElem hk, Option.getD_some]
    refine ⟨u, ?_, h2⟩
    rw [show 0 + k = k by omega, h.cellAt k (by omega), h1]
theorem Src.below {w w' : World} {A : Option Addr} {m size : Nat} {news : List Value} (h : Src w A m size news) (hb : Below w.heap.size w w') : Src w' A m size news :=
  ⟨h.1, fun h0 => by obtain ⟨ad, e, hc⟩ := h.2 h0; exact ⟨ad, e, fun j u hu => cell_below hb (hc j u hu)⟩⟩
theorem Src.grown {w w' : World} {g b m size : Nat} {news : List Value} (h : Src w (some ⟨g, 0, none⟩) m size news) (hg : w.grownBy w' (some b)) (hne : g ≠ b) : Src w' (some ⟨g, 0, none⟩) m size news :=
  ⟨h.1, fun h0 => by
    obtain ⟨ad, e, hc⟩ := h.2 h0
    cases e
    refine ⟨_, rfl, fun j u hu => hg.cell (hc j u hu) ?_⟩
    rw [Addr.add_lit]
    intro e
    exact hne (by injection e)⟩
set_option maxRecDepth 100000 in
set_option maxHeartbeats 3200000 in
theorem Fewest_none (d : DDay) (hd : DayOk d) (begins : List (List Nat)) (u z vl vb : Value) (w : World) (hda : DayAt w u z d) (hvl : RowsAt w vl ((legalDs d).map natsI)) (hvb : RowsAt w vb (begins.map natsI)) (hlen : begins.length ≤ 1100) (hbd : ∀ l ∈ begins, IsDuty d l) (hfr : freeS (segN d.blocks) begins = none) :
    Calls Tryz.prog 31 #[.agg #[.int .i64 d.law.piece, .int .i64 d.law.drive, .int .i64 d.law.spread, .int .i64 d.law.brk, .int .i64 d.law.on, .int .i64 d.law.off, .int .i64 d.law.least, .int .i64 d.law.pieces, u, z], vl, vb] w (Gives w (.tuple #[.int .i64 (begins.length : Int), .int .i64 (payS d begins)])) := by
  obtain ⟨A1, c1, rfl, _, _⟩ := hda.blocks.form
  obtain ⟨A2, c2, rfl, _, _⟩ := hda.walk.form
  obtain ⟨A3, c3, rfl, _, _⟩ := hvl.form
  obtain ⟨A4, c4, rfl, _, _⟩ := hvb.form
  have hm := day_mild hd
  have hsn := hd.segs
  have hw0 : Below w.heap.size w (w.alloc (.cells #[.int .i64 d.law.piece, .int .i64 d.law.drive, .int .i64 d.law.spread, .int .i64 d.law.brk, .int .i64 d.law.on, .int .i64 d.law.off, .int .i64 d.law.least, .int .i64 d.law.pieces, .slice A1 d.blocks.length c1, .slice A2 d.walk.length c2] 27)) := (Below.refl _ _).alloc (Nat.le_refl _) _
  have G0 := Lib.hid (heap_alloc_new w (.cells #[.int .i64 d.law.piece, .int .i64 d.law.drive, .int .i64 d.law.spread, .int .i64 d.law.brk, .int .i64 d.law.on, .int .i64 d.law.off, .int .i64 d.law.least, .int .i64 d.law.pieces, .slice A1 d.blocks.length c1, .slice A2 d.walk.length c2] 27 (0, 0)))
  have Hda := Lib.hid hda
  have Hvl := Lib.hid hvl
  have Hvb := Lib.hid hvb
  have Hd := Lib.hid hd
  have Hbd := Lib.hid hbd
  have HLl := Lib.hid (show ((legalDs d).map natsI).length = (legalDs d).length by simp)
  have HLb := Lib.hid (show (begins.map natsI).length = begins.length by simp)
  have HDn := Lib.hid (downF_all begins (segN d.blocks))
  rw [hfr] at HDn
  replace HDn := Lib.hid (show downF (frS begins) (segN d.blocks) (segN d.blocks) = -1 from HDn.out)
  clear hfr
  rw [HLl.out] at Hvl ⊢
  rw [HLb.out] at Hvb ⊢
  clear hda hvl hvb hd hbd
  go_enter Tryz.func31, Tryz.ntmps31
  have gc := box_cells G0.out
  have gf := box_frozen G0.out
  go_wp2_with fail
  refine (Segments_any d _ _ _ (Hda.out.below hw0) hm).mono ?_
  rintro e w1 ⟨rfl, hb1⟩
  have hw1 := hw0.trans (hb1.mono hw0.size)
  have G1 := Lib.hid (box_step hb1 G0.out)
  replace gc := box_cells G1.out
  replace gf := box_frozen G1.out
  have Hb1 := Lib.hid (Hvb.out.below hw1)
  go_wp2_with fail
  go_loop [8, 9] (fun f s => ∃ j : Nat, j ≤ segN d.blocks ∧ s = .int .i64 ((segN d.blocks : Int) - 1 - j) ∧ f = .int .i64 (downF (frS begins) (segN d.blocks) j)) (fun f s => (intOf s + 1).toNat)
  case atStart => exact ⟨0, by omega, by go_num, rfl⟩
  case round =>
    obtain ⟨j, hj, rfl, rfl⟩ := hrel
    by_cases hlt : j < segN d.blocks
    · obtain ⟨s, hs⟩ : ∃ s : Nat, segN d.blocks - 1 - j = s := ⟨_, rfl⟩
      have hsI : (segN d.blocks : Int) - 1 - j = (s : Int) := by omega
      have Hst := Lib.hid (show downF (frS begins) (segN d.blocks) (j + 1) = if frS begins s then (s : Int) else downF (frS begins) (segN d.blocks) j by rw [← hs]; rfl)
      have Hall := Lib.hid (hereK_all begins s)
      have hs10 : s ≤ 10 := by omega
      have HsI := Lib.hid hsI
      rw [hsI]
      clear hsI hs
      generalize downF (frS begins) (segN d.blocks) j = DN at *
      have hs0 : (0 : Int) ≤ (s : Int) := by omega
      go_wp2_with fail
      go_loop [10, 11] (fun h i => ∃ k : Nat, k ≤ begins.length ∧ i = .int .i64 k ∧ h = .bool (hereK begins s k)) (fun h i => begins.length - (intOf i).toNat)
      case atStart => exact ⟨0, by omega, rfl, rfl⟩
      case round =>
        obtain ⟨k, hk, rfl, rfl⟩ := hrel
        by_cases hlk : k < begins.length
        · have hkI : (k : Int) < (begins.length : Int) := by omega
          obtain ⟨b, o, l, y, rfl, hl, cl, hnl, _⟩ := Hb1.out.at_ (k := k) (by rw [HLb.out]; exact hlk)
          rw [List.getElem?_map] at hl
          obtain ⟨D, hD, rfl⟩ := Option.map_eq_some_iff.1 hl
          have Hs2 := Lib.hid (hereK_step (s := s) hD)
          have Hhas := Lib.hid (Same.to (has_nat D s) (Has_any _ _ (s : Int) _ hnl))
          obtain ⟨AY, cY, rfl, _, _⟩ := hnl.form
          generalize D.contains s = HD at *
          generalize (natsI D).length = nD at *
          generalize hereK begins s k = X at *
          clear hl hD hnl
          cases X with
          | true =>
            go_wp2_with fail
            go_round
            case rel => exact ⟨k + 1, by omega, by go_num, by rw [Hs2.out]; rfl⟩
            case measure => simp [intOf]; omega
          | false =>
            go_wp2_with fail
            refine Hhas.out.mono ?_
            rintro e w2q ⟨rfl, rfl⟩
            go_wp2_with fail
            go_round
            case rel => exact ⟨k + 1, by omega, by go_num, by rw [Hs2.out]; rfl⟩
            case measure => simp [intOf]; omega
        · obtain rfl : k = begins.length := by omega
          have hkI : ¬ (begins.length : Int) < (begins.length : Int) := by omega
          rw [Hall.out]
          cases hfr : frS begins s with
          | true =>
            have Hs3 := Lib.hid (show downF (frS begins) (segN d.blocks) (j + 1) = (s : Int) by rw [Hst.out, hfr]; rfl)
            clear hfr
            simp only [Bool.not_true]
            go_wp2_with fail
            go_round
            case rel => exact ⟨j + 1, by omega, by have := HsI.out; go_num, by rw [Hs3.out]⟩
            case measure => simp [intOf]
          | false =>
            have Hs3 := Lib.hid (show downF (frS begins) (segN d.blocks) (j + 1) = DN by rw [Hst.out, hfr]; rfl)
            clear hfr
            simp only [Bool.not_false]
            go_wp2_with fail
            go_round
            case rel => exact ⟨j + 1, by omega, by have := HsI.out; go_num, by rw [Hs3.out]⟩
            case measure => simp [intOf]
    · obtain rfl : j = segN d.blocks := by omega
      have hsI : (segN d.blocks : Int) - 1 - (segN d.blocks : Nat) = -1 := by omega
      rw [hsI, HDn.out]
      clear hsI
      go_wp2_with fail
      refine (PlanPay_any d _ _ _ begins _ (Hda.out.below hw1) Hd.out Hb1.out (by omega) Hbd.out).mono ?_
      rintro e w2 ⟨rfl, hb2⟩
      go_wp2_with fail
      go_ret2
      exact ⟨rfl, hw1.trans (hb2.mono hw1.size)⟩
set_option maxRecDepth 100000 in
set_option maxHeartbeats 6400000 in
theorem Fewest_some (d : DDay) (hd : DayOk d) (begins : List (List Nat)) (u z vl vb : Value) (w : World) (hda : DayAt w u z d) (hvl : RowsAt w vl ((legalDs d).map natsI)) (hvb : RowsAt w vb (begins.map natsI)) (hlen : begins.length ≤ 1100) (hbd : ∀ l ∈ begins, IsDuty d l) (f s : Nat) (hfr : freeS (segN d.blocks) begins = some s)
    (ih : ∀ l ∈ legalDs d, fitsL begins s l = true → ∀ (u z vl vb : Value) (w : World), DayAt w u z d → RowsAt w vl ((legalDs d).map natsI) → RowsAt w vb ((begins ++ [l]).map natsI) →
      Calls Tryz.prog 31 #[.agg #[.int .i64 d.law.piece, .int .i64 d.law.drive, .int .i64 d.law.spread, .int .i64 d.law.brk, .int .i64 d.law.on, .int .i64 d.law.off, .int .i64 d.law.least, .int .i64 d.law.pieces, u, z], vl, vb] w (Gives w (.tuple #[.int .i64 (fewL d f (begins ++ [l])).1, .int .i64 (fewL d f (begins ++ [l])).2]))) :
    Calls Tryz.prog 31 #[.agg #[.int .i64 d.law.piece, .int .i64 d.law.drive, .int .i64 d.law.spread, .int .i64 d.law.brk, .int .i64 d.law.on, .int .i64 d.law.off, .int .i64 d.law.least, .int .i64 d.law.pieces, u, z], vl, vb] w (Gives w (.tuple #[.int .i64 (facc d f begins s (legalDs d).length).1, .int .i64 (facc d f begins s (legalDs d).length).2])) := by
  obtain ⟨i1, hi1, hy0, hy1, hy2⟩ := info_parts infoR
  obtain ⟨A1, c1, rfl, _, _⟩ := hda.blocks.form
  obtain ⟨A2, c2, rfl, _, _⟩ := hda.walk.form
  obtain ⟨A3, c3, rfl, _, _⟩ := hvl.form
  obtain ⟨A4, c4, rfl, _, _⟩ := hvb.form
  have hm := day_mild hd
  have hsn := hd.segs
  have hw0 : Below w.heap.size w (w.alloc (.cells #[.int .i64 d.law.piece, .int .i64 d.law.drive, .int .i64 d.law.spread, .int .i64 d.law.brk, .int .i64 d.law.on, .int .i64 d.law.off, .int .i64 d.law.least, .int .i64 d.law.pieces, .slice A1 d.blocks.length c1, .slice A2 d.walk.length c2] 27)) := (Below.refl _ _).alloc (Nat.le_refl _) _
  have G0 := Lib.hid (heap_alloc_new w (.cells #[.int .i64 d.law.piece, .int .i64 d.law.drive, .int .i64 d.law.spread, .int .i64 d.law.brk, .int .i64 d.law.on, .int .i64 d.law.off, .int .i64 d.law.least, .int .i64 d.law.pieces, .slice A1 d.blocks.length c1, .slice A2 d.walk.length c2] 27 (0, 0)))
  have Hda := Lib.hid hda
  have Hvl := Lib.hid hvl
  have Hvb := Lib.hid hvb
  have Hd := Lib.hid hd
  have Hbd := Lib.hid hbd
  have HLl := Lib.hid (show ((legalDs d).map natsI).length = (legalDs d).length by simp)
  have HLb := Lib.hid (show (begins.map natsI).length = begins.length by simp)
  have HDn := Lib.hid (downF_all begins (segN d.blocks))
  rw [hfr] at HDn
  replace HDn := Lib.hid (show downF (frS begins) (segN d.blocks) (segN d.blocks) = (s : Int) from HDn.out)
  have hs16 : s ≤ 16 := by
    have h := (List.find?_eq_some_iff_append.1 hfr).2
    obtain ⟨xs1, xs2, h2, _⟩ := h
    have : s < segN d.blocks := List.mem_range.1 (by rw [h2]; simp)
    omega
  have HLD := legalDs_len (d := d) hsn
  have Hih := Lib.hid ih
  have HS := Lib.hid hfr
  clear hfr ih
  rw [HLl.out] at Hvl ⊢
  rw [HLb.out] at Hvb ⊢
  clear hda hvl hvb hd hbd
  go_enter Tryz.func31, Tryz.ntmps31
  have gc := box_cells G0.out
  have gf := box_frozen G0.out
  go_wp2_with fail
  refine (Segments_any d _ _ _ (Hda.out.below hw0) hm).mono ?_
  rintro e w1 ⟨rfl, hb1⟩
  have hw1 := hw0.trans (hb1.mono hw0.size)
  have G1 := Lib.hid (box_step hb1 G0.out)
  replace gc := box_cells G1.out
  replace gf := box_frozen G1.out
  have Hb1 := Lib.hid (Hvb.out.below hw1)
  go_wp2_with fail
  go_loop [8, 9] (fun f s => ∃ j : Nat, j ≤ segN d.blocks ∧ s = .int .i64 ((segN d.blocks : Int) - 1 - j) ∧ f = .int .i64 (downF (frS begins) (segN d.blocks) j)) (fun f s => (intOf s + 1).toNat)
  case atStart => exact ⟨0, by omega, by go_num, rfl⟩
  case round =>
    obtain ⟨j, hj, rfl, rfl⟩ := hrel
    by_cases hlt : j < segN d.blocks
    · obtain ⟨s, hs⟩ : ∃ s : Nat, segN d.blocks - 1 - j = s := ⟨_, rfl⟩
      have hsI : (segN d.blocks : Int) - 1 - j = (s : Int) := by omega
      have Hst := Lib.hid (show downF (frS begins) (segN d.blocks) (j + 1) = if frS begins s then (s : Int) else downF (frS begins) (segN d.blocks) j by rw [← hs]; rfl)
      have Hall := Lib.hid (hereK_all begins s)
      have hs10 : s ≤ 10 := by omega
      have HsI := Lib.hid hsI
      rw [hsI]
      clear hsI hs
      generalize downF (frS begins) (segN d.blocks) j = DN at *
      have hs0 : (0 : Int) ≤ (s : Int) := by omega
      go_wp2_with fail
      go_loop [10, 11] (fun h i => ∃ k : Nat, k ≤ begins.length ∧ i = .int .i64 k ∧ h = .bool (hereK begins s k)) (fun h i => begins.length - (intOf i).toNat)
      case atStart => exact ⟨0, by omega, rfl, rfl⟩
      case round =>
        obtain ⟨k, hk, rfl, rfl⟩ := hrel
        by_cases hlk : k < begins.length
        · have hkI : (k : Int) < (begins.length : Int) := by omega
          obtain ⟨b, o, l, y, rfl, hl, cl, hnl, _⟩ := Hb1.out.at_ (k := k) (by rw [HLb.out]; exact hlk)
          rw [List.getElem?_map] at hl
          obtain ⟨D, hD, rfl⟩ := Option.map_eq_some_iff.1 hl
          have Hs2 := Lib.hid (hereK_step (s := s) hD)
          have Hhas := Lib.hid (Same.to (has_nat D s) (Has_any _ _ (s : Int) _ hnl))
          obtain ⟨AY, cY, rfl, _, _⟩ := hnl.form
          generalize D.contains s = HD at *
          generalize (natsI D).length = nD at *
          generalize hereK begins s k = X at *
          clear hl hD hnl
          cases X with
          | true =>
            go_wp2_with fail
            go_round
            case rel => exact ⟨k + 1, by omega, by go_num, by rw [Hs2.out]; rfl⟩
            case measure => simp [intOf]; omega
          | false =>
            go_wp2_with fail
            refine Hhas.out.mono ?_
            rintro e w2q ⟨rfl, rfl⟩
            go_wp2_with fail
            go_round
            case rel => exact ⟨k + 1, by omega, by go_num, by rw [Hs2.out]; rfl⟩
            case measure => simp [intOf]; omega
        · obtain rfl : k = begins.length := by omega
          have hkI : ¬ (begins.length : Int) < (begins.length : Int) := by omega
          rw [Hall.out]
          cases hfr : frS begins s with
          | true =>
            have Hs3 := Lib.hid (show downF (frS begins) (segN d.blocks) (j + 1) = (s : Int) by rw [Hst.out, hfr]; rfl)
            clear hfr
            simp only [Bool.not_true]
            go_wp2_with fail
            go_round
            case rel => exact ⟨j + 1, by omega, by have := HsI.out; go_num, by rw [Hs3.out]⟩
            case measure => simp [intOf]
          | false =>
            have Hs3 := Lib.hid (show downF (frS begins) (segN d.blocks) (j + 1) = DN by rw [Hst.out, hfr]; rfl)
            clear hfr
            simp only [Bool.not_false]
            go_wp2_with fail
            go_round
            case rel => exact ⟨j + 1, by omega, by have := HsI.out; go_num, by rw [Hs3.out]⟩
            case measure => simp [intOf]
    · obtain rfl : j = segN d.blocks := by omega
      have hsI : (segN d.blocks : Int) - 1 - (segN d.blocks : Nat) = -1 := by omega
      rw [hsI, HDn.out]
      clear hsI
      have hs0 : ¬ (s : Int) < 0 := by omega
      go_wp2_with fail
      go_loopw [12, 13, 14] (fun x y i wr => ∃ k : Nat, k ≤ (legalDs d).length ∧ i = .int .i64 k ∧ x = .int .i64 (facc d f begins s k).1 ∧ y = .int .i64 (facc d f begins s k).2 ∧ Below w.heap.size w wr ∧ wr.heap[w.heap.size]? = some (.cells #[.int .i64 d.law.piece, .int .i64 d.law.drive, .int .i64 d.law.spread, .int .i64 d.law.brk, .int .i64 d.law.on, .int .i64 d.law.off, .int .i64 d.law.least, .int .i64 d.law.pieces, .slice A1 d.blocks.length c1, .slice A2 d.walk.length c2] 27 (0, 0))) (fun x y i wr => (legalDs d).length - (intOf i).toNat)
      case atStart => exact ⟨0, by omega, rfl, rfl, rfl, hw1, G1.out⟩
      case round =>
        obtain ⟨k, hk, rfl, rfl, rfl, hwo, hbx⟩ := hrel
        obtain ⟨wo, rfl⟩ : ∃ wo : World, wo = wr := ⟨_, rfl⟩
        have Go := Lib.hid hbx
        replace gc := box_cells Go.out
        replace gf := box_frozen Go.out
        clear hbx
        by_cases hlk : k < (legalDs d).length
        · have hkI : (k : Int) < ((legalDs d).length : Int) := by omega
          obtain ⟨b3, o3, l, y, rfl, hl, cl, hnl, _⟩ := (Hvl.out.below hwo).at_ (k := k) (by rw [HLl.out]; exact hlk)
          rw [List.getElem?_map] at hl
          obtain ⟨D, hD, rfl⟩ := Option.map_eq_some_iff.1 hl
          have Hst := Lib.hid (facc_step (f := f) (begins := begins) (s := s) hD)
          have Hmem := Lib.hid (List.mem_of_getElem? hD)
          have Hnl := Lib.hid hnl
          have HhasS := Lib.hid (Same.to (has_nat D s) (Has_any _ _ (s : Int) _ hnl))
          obtain ⟨AY, cY, rfl, _, _⟩ := hnl.form
          have HfK0 := Lib.hid (fitK_zero begins s D)
          have HfKA := Lib.hid (fitK_all begins s D)
          have HYL := Lib.hid (natsI_len D)
          rw [HYL.out] at HhasS Hnl cl
          clear hl hD hnl
          obtain ⟨a1, ha1⟩ : ∃ a, (facc d f begins s k).1 = a := ⟨_, rfl⟩
          obtain ⟨a2, ha2⟩ : ∃ a, (facc d f begins s k).2 = a := ⟨_, rfl⟩
          have Hfk := Lib.hid (show facc d f begins s k = (a1, a2) by rw [← ha1, ← ha2])
          rw [ha1, ha2]
          clear ha1 ha2
          have Hcl := Lib.hid cl
          go_wp2_with fail
          refine HhasS.out.mono ?_
          rintro e w2q ⟨rfl, rfl⟩
          rw [← HfK0.out]
          go_wp2_with fail
          go_loopw [15, 16] (fun fi i wr => ∃ m : Nat, m ≤ begins.length ∧ i = .int .i64 m ∧ fi = .bool (fitK begins s D m) ∧ Below wo.heap.size wo wr) (fun fi i wr => begins.length - (intOf i).toNat)
          case atStart => exact ⟨0, by omega, rfl, rfl, Below.refl _ _⟩
          case round =>
            obtain ⟨m, hmk, rfl, rfl, hbp⟩ := hrel
            obtain ⟨wp, rfl⟩ : ∃ wp : World, wp = wr := ⟨_, rfl⟩
            have hwp := hwo.trans (hbp.mono hwo.size)
            by_cases hlm : m < begins.length
            · have hmI : (m : Int) < (begins.length : Int) := by omega
              obtain ⟨b4, o4, lb, yb, rfl, hlb, cb, hnb, _⟩ := (Hvb.out.below hwp).at_ (k := m) (by rw [HLb.out]; exact hlm)
              rw [List.getElem?_map] at hlb
              obtain ⟨B, hB, rfl⟩ := Option.map_eq_some_iff.1 hlb
              have Hs4 := Lib.hid (fitK_step (s := s) (l := D) hB)
              have hBl : B.length ≤ 10 := by
                have := duty_len (Hbd.out B (List.mem_of_getElem? hB))
                omega
              have Hnb := Lib.hid hnb
              obtain ⟨AB, cB, rfl, _, _⟩ := hnb.form
              have HBL := Lib.hid (natsI_len B)
              rw [HBL.out] at Hnb cb
              generalize fitK begins s D m = F at *
              have HJ0 := Lib.hid (fitJ_zero F B D)
              have Hcb := Lib.hid cb
              clear hlb hB hnb
              go_wp2_with fail
              go_loopw [15, 17] (fun fi j wr => ∃ q : Nat, q ≤ B.length ∧ j = .int .i64 q ∧ fi = .bool (fitJ F B D q) ∧ Below wp.heap.size wp wr) (fun fi j wr => B.length - (intOf j).toNat)
              case atStart => exact ⟨0, by omega, rfl, by rw [HJ0.out], Below.refl _ _⟩
              case round =>
                obtain ⟨q, hq, rfl, rfl, hbs⟩ := hrel
                obtain ⟨ws, rfl⟩ : ∃ ws : World, ws = wr := ⟨_, rfl⟩
                have hws := hwp.trans (hbs.mono hwp.size)
                have cl2 := cell_below (hbp.trans (hbs.mono hbp.size)) Hcl.out
                have cb2 := cell_below hbs Hcb.out
                have Hnl2 := Lib.hid (Hnl.out.below (hbp.trans (hbs.mono hbp.size)))
                by_cases hlq : q < B.length
                · have hqI : (q : Int) < (B.length : Int) := by omega
                  obtain ⟨b5, o5, xx, rfl, hx, cx, _⟩ := (Hnb.out.below hbs).at_ (k := q) (by rw [HBL.out]; exact hlq)
                  obtain ⟨x, rfl, hxB⟩ := natsI_get hx
                  have Hs5 := Lib.hid (fitJ_step (f := F) (l := D) hxB)
                  have HhasX := Lib.hid (show ∀ w', Below ws.heap.size ws w' → Calls Tryz.prog 35 #[.slice AY D.length cY, .int .i64 (x : Int)] w' (Gives w' (.bool (D.contains x))) from fun w' h' => Same.gives (Same.to (has_nat D x) (Has_any _ _ (x : Int) _ (Hnl2.out.below h'))))
                  generalize D.contains x = HX at *
                  generalize fitJ F B D q = X at *
                  clear hx hxB
                  cases X with
                  | true =>
                    go_wp2_with fail
                    refine wp_region_noPanic ?_
                    refine wp_region_ph [([0, 1, 2, 3, 4, 5, 6, 7, 8, 9, 10, 11, 12], [13, 14, 15, 16])] (fun _ => true) (fun w' => Below ws.heap.size ws w') (by kernel_rfl) (by kernel_rfl) (fun _ _ _ _ _ h => h) ?_
                    have hb1q : Below ws.heap.size ws ws.drew := (Below.refl _ _).drew
                    have HS1q := Lib.hid hb1q
                    obtain ⟨w1q, hwe1q⟩ : ∃ W, W = ws.drew := ⟨_, rfl⟩
                    rw [← hwe1q] at hb1q HS1q ⊢
                    clear hwe1q
                    have hw1q := hws.trans (hb1q.mono hws.size)
                    refine wpPh_cons HS1q.out (fun hne => ?_)
                    have n0 := fun x : Meets (fun w' => Below ws.heap.size ws w') => cell_below x.property (cl2)
                    have n1 := fun x : Meets (fun w' => Below ws.heap.size ws w') => cell_below x.property (cb2)
                    have n2 := fun x : Meets (fun w' => Below ws.heap.size ws w') => cell_below x.property (cx)
                    simp only [pick, pickN, List.filterMap_cons, List.filterMap_nil, List.getElem?_cons_zero, List.getElem?_cons_succ, Option.map_some]
                    repeat (change wpQuiet _ _ _ _ (_ :: _) _; go_big_quiet_step (fail))
                    refine wpQuiet_nil ?_
                    clear n0 n1 n2 hne
                    refine wpSeqK_step (fun K hK => ?_)
                    go_simp
                    refine (HhasX.out _ HS1q.out).mono ?_
                    rintro e w2q ⟨rfl, hb2q⟩
                    have HS2q := Lib.hid (HS1q.out.trans (hb2q.mono HS1q.out.size))
                    have hw2q := hw1q.trans (hb2q.mono hw1q.size)
                    refine hK.out _ _ (fun _ => HS2q.out) ?_
                    clear hK K
                    refine wpSeqK_step (fun K hK => ?_)
                    go_simp
                    refine hK.out _ _ (fun _ => HS2q.out) ?_
                    clear hK K
                    refine wpSeqK_step (fun K hK => ?_)
                    go_simp
                    refine hK.out _ _ (fun _ => HS2q.out) ?_
                    clear hK K
                    refine wpSeqK_step (fun K hK => ?_)
                    go_simp
                    refine hK.out _ _ (fun _ => HS2q.out) ?_
                    clear hK K
                    refine wpSeqK_nil ?_
                    refine wpPh_nil ?_
                    refine NoPanic.normal ?_
                    go_wp2_with fail
                    go_roundw
                    case rel => exact ⟨q + 1, by omega, by go_num, by rw [Hs5.out]; rw [Bool.true_and], hbs.trans (HS2q.out.mono hbs.size)⟩
                    case measure => simp [intOf]; omega
                  | false =>
                    go_wp2_with fail
                    refine wp_region_noPanic ?_
                    refine wp_region_ph [([0, 1, 2, 3, 4, 5, 6, 7, 8, 9, 10, 11, 12], [13, 14, 15, 16])] (fun _ => true) (fun w' => Below ws.heap.size ws w') (by kernel_rfl) (by kernel_rfl) (fun _ _ _ _ _ h => h) ?_
                    have hb1q : Below ws.heap.size ws ws.drew := (Below.refl _ _).drew
                    have HS1q := Lib.hid hb1q
                    obtain ⟨w1q, hwe1q⟩ : ∃ W, W = ws.drew := ⟨_, rfl⟩
                    rw [← hwe1q] at hb1q HS1q ⊢
                    clear hwe1q
                    have hw1q := hws.trans (hb1q.mono hws.size)
                    refine wpPh_cons HS1q.out (fun hne => ?_)
                    have n0 := fun x : Meets (fun w' => Below ws.heap.size ws w') => cell_below x.property (cl2)
                    have n1 := fun x : Meets (fun w' => Below ws.heap.size ws w') => cell_below x.property (cb2)
                    have n2 := fun x : Meets (fun w' => Below ws.heap.size ws w') => cell_below x.property (cx)
                    simp only [pick, pickN, List.filterMap_cons, List.filterMap_nil, List.getElem?_cons_zero, List.getElem?_cons_succ, Option.map_some]
                    repeat (change wpQuiet _ _ _ _ (_ :: _) _; go_big_quiet_step (fail))
                    refine wpQuiet_nil ?_
                    clear n0 n1 n2 hne
                    refine wpSeqK_step (fun K hK => ?_)
                    go_simp
                    refine hK.out _ _ (fun _ => HS1q.out) ?_
                    clear hK K
                    refine wpSeqK_step (fun K hK => ?_)
                    go_simp
                    refine hK.out _ _ (fun _ => HS1q.out) ?_
                    clear hK K
                    refine wpSeqK_step (fun K hK => ?_)
                    go_simp
                    refine hK.out _ _ (fun _ => HS1q.out) ?_
                    clear hK K
                    refine wpSeqK_step (fun K hK => ?_)
                    go_simp
                    refine hK.out _ _ (fun _ => HS1q.out) ?_
                    clear hK K
                    refine wpSeqK_nil ?_
                    refine wpPh_nil ?_
                    refine NoPanic.normal ?_
                    go_wp2_with fail
                    go_roundw
                    case rel => exact ⟨q + 1, by omega, by go_num, by rw [Hs5.out]; rfl, hbs.trans (HS1q.out.mono hbs.size)⟩
                    case measure => simp [intOf]; omega
                · obtain rfl : q = B.length := by omega
                  have hqI : ¬ (B.length : Int) < (B.length : Int) := by omega
                  rw [Hs4.out]
                  go_wp2_with fail
                  go_roundw
                  case rel => exact ⟨m + 1, by omega, by go_num, rfl, hbp.trans (hbs.mono hbp.size)⟩
                  case measure => simp [intOf]; omega
            · obtain rfl : m = begins.length := by omega
              have hmI : ¬ (begins.length : Int) < (begins.length : Int) := by omega
              rw [HfKA.out]
              have Gp := Lib.hid (box_step hbp Go.out)
              replace gc := box_cells Gp.out
              replace gf := box_frozen Gp.out
              cases hft : fitsL begins s D with
              | false =>
                have Hs6 := Lib.hid (show facc d f begins s (k + 1) = (a1, a2) by rw [Hst.out, hft, Hfk.out]; rfl)
                clear hft
                go_wp2_with fail
                go_roundw
                case rel => exact ⟨k + 1, by omega, by go_num, by rw [Hs6.out], by rw [Hs6.out], hwp, Gp.out⟩
                case measure => simp [intOf]; omega
              | true =>
                obtain ⟨r1, hr1⟩ : ∃ a, (fewL d f (begins ++ [D])).1 = a := ⟨_, rfl⟩
                obtain ⟨r2, hr2⟩ : ∃ a, (fewL d f (begins ++ [D])).2 = a := ⟨_, rfl⟩
                have Hs6 := Lib.hid (show facc d f begins s (k + 1) = fewStep (r1, r2) (a1, a2) by rw [Hst.out, hft, Hfk.out, ← hr1, ← hr2]; rfl)
                have Hrec := Lib.hid (Hih.out D Hmem.out hft)
                rw [hr1, hr2] at Hrec
                have cl2 := cell_below hbp Hcl.out
                have Hnl2 := Lib.hid (Hnl.out.below hbp)
                have Hvb2 := Lib.hid (Hvb.out.below hwp)
                obtain ⟨us, hus, hui⟩ := rows_src Hvb2.out
                have Hus := Lib.hid hus
                have Hui := Lib.hid hui
                have hDl : D.length ≤ D.length := Nat.le_refl _
                clear hus hui hft hr1 hr2
                go_wp2_with fail
                go_cut [18, 19] from 98 to 111 (fun x y wx => x = .int .i64 r1 ∧ y = .int .i64 r2 ∧ Below wp.heap.size wp wx)
                case first =>
                  have hB0 : Below wp.heap.size wp wp.drew := (Below.refl _ _).drew
                  refine wp_region_noPanic ?_
                  refine wp_region_pickA [0, 1, 3, 5, 6, 7, 8] 10 (fun _ => true) (fun w' => Below wp.heap.size wp w') (by kernel_rfl) (by kernel_rfl) (fun _ _ _ _ _ h => h) hB0 (fun hne => ?_)
                  have n0 := fun x : Meets (fun w' => Below wp.heap.size wp w') => cell_below x.property cl2
                  have n1 := fun x : Meets (fun w' => Below wp.heap.size wp w') => cell_below x.property (box_cells Gp.out 0)
                  have n2 := fun x : Meets (fun w' => Below wp.heap.size wp w') => cell_below x.property (box_cells Gp.out 1)
                  have n3 := fun x : Meets (fun w' => Below wp.heap.size wp w') => cell_below x.property (box_cells Gp.out 2)
                  have n4 := fun x : Meets (fun w' => Below wp.heap.size wp w') => cell_below x.property (box_cells Gp.out 3)
                  have n5 := fun x : Meets (fun w' => Below wp.heap.size wp w') => cell_below x.property (box_cells Gp.out 4)
                  have n6 := fun x : Meets (fun w' => Below wp.heap.size wp w') => cell_below x.property (box_cells Gp.out 5)
                  have n7 := fun x : Meets (fun w' => Below wp.heap.size wp w') => cell_below x.property (box_cells Gp.out 6)
                  have n8 := fun x : Meets (fun w' => Below wp.heap.size wp w') => cell_below x.property (box_cells Gp.out 7)
                  have n9 := fun x : Meets (fun w' => Below wp.heap.size wp w') => cell_below x.property (box_cells Gp.out 8)
                  have n10 := fun x : Meets (fun w' => Below wp.heap.size wp w') => cell_below x.property (box_cells Gp.out 9)
                  simp only [pick, pickN, List.filterMap_cons, List.filterMap_nil, List.getElem?_cons_zero, List.getElem?_cons_succ, Option.map_some]
                  repeat (change wpQuiet _ _ _ _ (_ :: _) _; go_big_quiet_step (fail))
                  refine wpQuiet_nil ?_
                  clear n0 n1 n2 n3 n4 n5 n6 n7 n8 n9 n10 hne
                  obtain ⟨v0, hv0⟩ : ∃ W, W = wp.drew := ⟨_, rfl⟩
                  rw [← hv0] at hB0 ⊢
                  clear hv0
                  refine wpAnyF_two (i := 2) (j := 9) (by kernel_rfl) rfl rfl (fun K hK => ?_) (fun K hK => ?_)
                  · go_simp
                    have hB4 := hB0.alloc hB0.size (.cells #[] 28)
                    have eE1 := own_mono (World.ownsRow_lit (base := v0.heap.size) (e := 28) (size := 1) v0 #[] 0 (Nat.le_refl _) (by simp [maxLen]) (by simp)) hB0.size
                    have sg2 : v0.heap.size < (v0.alloc (.cells #[] 28)).heap.size := by simp
                    refine hK.out _ _ (fun _ => hB4) ?_
                    clear hK K
                    obtain ⟨g2, hg2⟩ : ∃ g, v0.heap.size = g := ⟨_, rfl⟩
                    rw [hg2] at eE1 sg2 ⊢
                    clear hg2
                    generalize v0.alloc (.cells #[] 28) = v3 at *
                    refine wpAnyF_two (i := 4) (j := 9) (by kernel_rfl) rfl rfl (fun K hK => ?_) (fun K hK => ?_)
                    · refine step_append_src _ rfl (.tmp 100) (.tmp 101) 25 rfl wp.heap.size 28 i1 _ 1 24 Tryz.underlying25 hi1 hy0 hy1 hy2 rfl (by omega) (.slice (some ⟨g2, 0, none⟩) 0 0) 0 [] rfl eE1 A4 begins.length c4 us rfl (Src.below Hus.out hB4) (RowsIn.one Hui.out) (by simp [maxLen]; omega) (by omega) hB4.size ?_
                      intro AA5 cc6 v7 own8 hg9 _
                      simp only [Nat.zero_add, List.nil_append] at own8 ⊢
                      have hB10 := below_grown hB4 hg9 hB4.size eE1 (Nat.le_refl _)
                      refine hK.out _ _ (fun _ => hB10) ?_
                      clear hK K
                      refine wpAnyF_one (i := 9) (by kernel_rfl) rfl (fun K hK => ?_)
                      go_simp
                      have hB14 := hB10.alloc hB10.size (.cells #[.slice AY D.length cY] 28)
                      have sL11 := src_new v7 [.slice AY D.length cY] 28 1 1 rfl
                      have sg12 : v7.heap.size < (v7.alloc (.cells #[.slice AY D.length cY] 28)).heap.size := by simp
                      have eO15 := World.ownsRow.alloc own8 (.cells #[.slice AY D.length cY] 28)
                      refine hK.out _ _ (fun _ => hB14) ?_
                      clear hK K
                      obtain ⟨g12, hg12⟩ : ∃ g, v7.heap.size = g := ⟨_, rfl⟩
                      rw [hg12] at sL11 sg12 ⊢
                      clear hg12
                      generalize v7.alloc (.cells #[.slice AY D.length cY] 28) = v13 at *
                      refine wpAnyF_one (i := 10) (by kernel_rfl) rfl (fun K hK => ?_)
                      refine step_append_src _ rfl (.tmp 102) (.tmp 107) 25 rfl wp.heap.size 28 i1 _ 1 24 Tryz.underlying25 hi1 hy0 hy1 hy2 rfl (by omega) (.slice AA5 begins.length cc6) begins.length us rfl eO15 (some ⟨g12, 0, none⟩) 1 1 [.slice AY D.length cY] rfl sL11 (by simp [Value.oneCell']) (by simp [maxLen]; omega) (by omega) hB14.size ?_
                      intro AA16 cc17 v18 own19 hg20 _
                      have hB21 := below_grown hB14 hg20 hB14.size eO15 (Nat.le_refl _)
                      refine hK.out _ _ (fun _ => hB21) ?_
                      clear hK K
                      refine wpAnyF_one (i := 11) (by kernel_rfl) rfl (fun K hK => ?_)
                      go_simp
                      refine (Hrec.out _ _ _ _ _ (Hda.out.below (hwp.trans (hB21.mono hwp.size))) (Hvl.out.below (hwp.trans (hB21.mono hwp.size))) (by rw [List.map_append]; exact rows_of_in own19 ((Hui.out.below hB21).snoc (Hnl2.out.below hB21)))).mono ?_
                      rintro e v23 ⟨rfl, hb24⟩
                      have hB22 := hB21.trans (hb24.mono hB21.size)
                      refine hK.out _ _ (fun _ => hB22) ?_
                      clear hK K
                      refine wpAnyF_one (i := 12) (by kernel_rfl) rfl (fun K hK => ?_)
                      go_simp
                      refine hK.out _ _ (fun _ => hB22) ?_
                      clear hK K
                      refine wpAnyF_two (i := 13) (j := 14) (by kernel_rfl) rfl rfl (fun K hK => ?_) (fun K hK => ?_)
                      · go_simp
                        refine hK.out _ _ (fun _ => hB22) ?_
                        clear hK K
                        refine wpAnyF_two (i := 14) (j := 15) (by kernel_rfl) rfl rfl (fun K hK => ?_) (fun K hK => ?_)
                        · go_simp
                          refine hK.out _ _ (fun _ => hB22) ?_
                          clear hK K
                          refine wpAnyF_one (i := 15) (by kernel_rfl) rfl (fun K hK => ?_)
                          go_simp
                          refine hK.out _ _ (fun _ => hB22) ?_
                          clear hK K
                          refine wpAnyF_one (i := 16) (by kernel_rfl) rfl (fun K hK => ?_)
                          go_simp
                          refine hK.out _ _ (fun _ => hB22) ?_
                          clear hK K
                          refine wpAnyF_done (by kernel_rfl) ?_ _
                          refine NoPanic.normal ?_
                          go_wp2_with fail
                          go_meet
                          case rel => exact ⟨rfl, rfl, hB22⟩
                        · go_simp
                          refine hK.out _ _ (fun _ => hB22) ?_
                          clear hK K
                          refine wpAnyF_one (i := 14) (by kernel_rfl) rfl (fun K hK => ?_)
                          go_simp
                          refine hK.out _ _ (fun _ => hB22) ?_
                          clear hK K
                          refine wpAnyF_one (i := 16) (by kernel_rfl) rfl (fun K hK => ?_)
                          go_simp
                          refine hK.out _ _ (fun _ => hB22) ?_
                          clear hK K
                          refine wpAnyF_done (by kernel_rfl) ?_ _
                          refine NoPanic.normal ?_
                          go_wp2_with fail
                          go_meet
                          case rel => exact ⟨rfl, rfl, hB22⟩
                      · go_simp
                        refine hK.out _ _ (fun _ => hB22) ?_
                        clear hK K
                        refine wpAnyF_one (i := 13) (by kernel_rfl) rfl (fun K hK => ?_)
                        go_simp
                        refine hK.out _ _ (fun _ => hB22) ?_
                        clear hK K
                        refine wpAnyF_one (i := 15) (by kernel_rfl) rfl (fun K hK => ?_)
                        go_simp
                        refine hK.out _ _ (fun _ => hB22) ?_
                        clear hK K
                        refine wpAnyF_one (i := 16) (by kernel_rfl) rfl (fun K hK => ?_)
                        go_simp
                        refine hK.out _ _ (fun _ => hB22) ?_
                        clear hK K
                        refine wpAnyF_done (by kernel_rfl) ?_ _
                        refine NoPanic.normal ?_
                        go_wp2_with fail
                        go_meet
                        case rel => exact ⟨rfl, rfl, hB22⟩
                    · go_simp
                      have hB28 := hB4.alloc hB4.size (.cells #[.slice AY D.length cY] 28)
                      have sL25 := src_new v3 [.slice AY D.length cY] 28 1 1 rfl
                      have sg26 : v3.heap.size < (v3.alloc (.cells #[.slice AY D.length cY] 28)).heap.size := by simp
                      have eO29 := World.ownsRow.alloc eE1 (.cells #[.slice AY D.length cY] 28)
                      refine hK.out _ _ (fun _ => hB28) ?_
                      clear hK K
                      obtain ⟨g26, hg26⟩ : ∃ g, v3.heap.size = g := ⟨_, rfl⟩
                      rw [hg26] at sL25 sg26 ⊢
                      have ltg2g26 : g2 < g26 := by omega
                      clear hg26
                      generalize v3.alloc (.cells #[.slice AY D.length cY] 28) = v27 at *
                      refine wpAnyF_one (i := 4) (by kernel_rfl) rfl (fun K hK => ?_)
                      refine step_append_src _ rfl (.tmp 100) (.tmp 101) 25 rfl wp.heap.size 28 i1 _ 1 24 Tryz.underlying25 hi1 hy0 hy1 hy2 rfl (by omega) (.slice (some ⟨g2, 0, none⟩) 0 0) 0 [] rfl eO29 A4 begins.length c4 us rfl (Src.below Hus.out hB28) (RowsIn.one Hui.out) (by simp [maxLen]; omega) (by omega) hB28.size ?_
                      intro AA30 cc31 v32 own33 hg34 _
                      simp only [Nat.zero_add, List.nil_append] at own33 ⊢
                      have hB35 := below_grown hB28 hg34 hB28.size eO29 (Nat.le_refl _)
                      have sL36 := Src.grown sL25 hg34 (show g26 ≠ g2 by omega)
                      refine hK.out _ _ (fun _ => hB35) ?_
                      clear hK K
                      refine wpAnyF_one (i := 10) (by kernel_rfl) rfl (fun K hK => ?_)
                      refine step_append_src _ rfl (.tmp 102) (.tmp 107) 25 rfl wp.heap.size 28 i1 _ 1 24 Tryz.underlying25 hi1 hy0 hy1 hy2 rfl (by omega) (.slice AA30 begins.length cc31) begins.length us rfl own33 (some ⟨g26, 0, none⟩) 1 1 [.slice AY D.length cY] rfl sL36 (by simp [Value.oneCell']) (by simp [maxLen]; omega) (by omega) hB35.size ?_
                      intro AA37 cc38 v39 own40 hg41 _
                      have hB42 := below_grown hB35 hg41 hB35.size own33 (Nat.le_refl _)
                      refine hK.out _ _ (fun _ => hB42) ?_
                      clear hK K
                      refine wpAnyF_one (i := 11) (by kernel_rfl) rfl (fun K hK => ?_)
                      go_simp
                      refine (Hrec.out _ _ _ _ _ (Hda.out.below (hwp.trans (hB42.mono hwp.size))) (Hvl.out.below (hwp.trans (hB42.mono hwp.size))) (by rw [List.map_append]; exact rows_of_in own40 ((Hui.out.below hB42).snoc (Hnl2.out.below hB42)))).mono ?_
                      rintro e v44 ⟨rfl, hb45⟩
                      have hB43 := hB42.trans (hb45.mono hB42.size)
                      refine hK.out _ _ (fun _ => hB43) ?_
                      clear hK K
                      refine wpAnyF_one (i := 12) (by kernel_rfl) rfl (fun K hK => ?_)
                      go_simp
                      refine hK.out _ _ (fun _ => hB43) ?_
                      clear hK K
                      refine wpAnyF_two (i := 13) (j := 14) (by kernel_rfl) rfl rfl (fun K hK => ?_) (fun K hK => ?_)
                      · go_simp
                        refine hK.out _ _ (fun _ => hB43) ?_
                        clear hK K
                        refine wpAnyF_two (i := 14) (j := 15) (by kernel_rfl) rfl rfl (fun K hK => ?_) (fun K hK => ?_)
                        · go_simp
                          refine hK.out _ _ (fun _ => hB43) ?_
                          clear hK K
                          refine wpAnyF_one (i := 15) (by kernel_rfl) rfl (fun K hK => ?_)
                          go_simp
                          refine hK.out _ _ (fun _ => hB43) ?_
                          clear hK K
                          refine wpAnyF_one (i := 16) (by kernel_rfl) rfl (fun K hK => ?_)
                          go_simp
                          refine hK.out _ _ (fun _ => hB43) ?_
                          clear hK K
                          refine wpAnyF_done (by kernel_rfl) ?_ _
                          refine NoPanic.normal ?_
                          go_wp2_with fail
                          go_meet
                          case rel => exact ⟨rfl, rfl, hB43⟩
                        · go_simp
                          refine hK.out _ _ (fun _ => hB43) ?_
                          clear hK K
                          refine wpAnyF_one (i := 14) (by kernel_rfl) rfl (fun K hK => ?_)
                          go_simp
                          refine hK.out _ _ (fun _ => hB43) ?_
                          clear hK K
                          refine wpAnyF_one (i := 16) (by kernel_rfl) rfl (fun K hK => ?_)
                          go_simp
                          refine hK.out _ _ (fun _ => hB43) ?_
                          clear hK K
                          refine wpAnyF_done (by kernel_rfl) ?_ _
                          refine NoPanic.normal ?_
                          go_wp2_with fail
                          go_meet
                          case rel => exact ⟨rfl, rfl, hB43⟩
                      · go_simp
                        refine hK.out _ _ (fun _ => hB43) ?_
                        clear hK K
                        refine wpAnyF_one (i := 13) (by kernel_rfl) rfl (fun K hK => ?_)
                        go_simp
                        refine hK.out _ _ (fun _ => hB43) ?_
                        clear hK K
                        refine wpAnyF_one (i := 15) (by kernel_rfl) rfl (fun K hK => ?_)
                        go_simp
                        refine hK.out _ _ (fun _ => hB43) ?_
                        clear hK K
                        refine wpAnyF_one (i := 16) (by kernel_rfl) rfl (fun K hK => ?_)
                        go_simp
                        refine hK.out _ _ (fun _ => hB43) ?_
                        clear hK K
                        refine wpAnyF_done (by kernel_rfl) ?_ _
                        refine NoPanic.normal ?_
                        go_wp2_with fail
                        go_meet
                        case rel => exact ⟨rfl, rfl, hB43⟩
                  · go_simp
                    have hB49 := hB0.alloc hB0.size (.cells #[.slice AY D.length cY] 28)
                    have sL46 := src_new v0 [.slice AY D.length cY] 28 1 1 rfl
                    have sg47 : v0.heap.size < (v0.alloc (.cells #[.slice AY D.length cY] 28)).heap.size := by simp
                    refine hK.out _ _ (fun _ => hB49) ?_
                    clear hK K
                    obtain ⟨g47, hg47⟩ : ∃ g, v0.heap.size = g := ⟨_, rfl⟩
                    rw [hg47] at sL46 sg47 ⊢
                    clear hg47
                    generalize v0.alloc (.cells #[.slice AY D.length cY] 28) = v48 at *
                    refine wpAnyF_one (i := 2) (by kernel_rfl) rfl (fun K hK => ?_)
                    go_simp
                    have hB53 := hB49.alloc hB49.size (.cells #[] 28)
                    have eE50 := own_mono (World.ownsRow_lit (base := v48.heap.size) (e := 28) (size := 1) v48 #[] 0 (Nat.le_refl _) (by simp [maxLen]) (by simp)) hB49.size
                    have sg51 : v48.heap.size < (v48.alloc (.cells #[] 28)).heap.size := by simp
                    have sL54 := Src.below sL46 ((Below.refl _ _).alloc (Nat.le_refl _) (.cells #[] 28))
                    refine hK.out _ _ (fun _ => hB53) ?_
                    clear hK K
                    obtain ⟨g51, hg51⟩ : ∃ g, v48.heap.size = g := ⟨_, rfl⟩
                    rw [hg51] at eE50 sg51 ⊢
                    have ltg47g51 : g47 < g51 := by omega
                    clear hg51
                    generalize v48.alloc (.cells #[] 28) = v52 at *
                    refine wpAnyF_one (i := 4) (by kernel_rfl) rfl (fun K hK => ?_)
                    refine step_append_src _ rfl (.tmp 100) (.tmp 101) 25 rfl wp.heap.size 28 i1 _ 1 24 Tryz.underlying25 hi1 hy0 hy1 hy2 rfl (by omega) (.slice (some ⟨g51, 0, none⟩) 0 0) 0 [] rfl eE50 A4 begins.length c4 us rfl (Src.below Hus.out hB53) (RowsIn.one Hui.out) (by simp [maxLen]; omega) (by omega) hB53.size ?_
                    intro AA55 cc56 v57 own58 hg59 _
                    simp only [Nat.zero_add, List.nil_append] at own58 ⊢
                    have hB60 := below_grown hB53 hg59 hB53.size eE50 (Nat.le_refl _)
                    have sL61 := Src.grown sL54 hg59 (show g47 ≠ g51 by omega)
                    refine hK.out _ _ (fun _ => hB60) ?_
                    clear hK K
                    refine wpAnyF_one (i := 10) (by kernel_rfl) rfl (fun K hK => ?_)
                    refine step_append_src _ rfl (.tmp 102) (.tmp 107) 25 rfl wp.heap.size 28 i1 _ 1 24 Tryz.underlying25 hi1 hy0 hy1 hy2 rfl (by omega) (.slice AA55 begins.length cc56) begins.length us rfl own58 (some ⟨g47, 0, none⟩) 1 1 [.slice AY D.length cY] rfl sL61 (by simp [Value.oneCell']) (by simp [maxLen]; omega) (by omega) hB60.size ?_
                    intro AA62 cc63 v64 own65 hg66 _
                    have hB67 := below_grown hB60 hg66 hB60.size own58 (Nat.le_refl _)
                    refine hK.out _ _ (fun _ => hB67) ?_
                    clear hK K
                    refine wpAnyF_one (i := 11) (by kernel_rfl) rfl (fun K hK => ?_)
                    go_simp
                    refine (Hrec.out _ _ _ _ _ (Hda.out.below (hwp.trans (hB67.mono hwp.size))) (Hvl.out.below (hwp.trans (hB67.mono hwp.size))) (by rw [List.map_append]; exact rows_of_in own65 ((Hui.out.below hB67).snoc (Hnl2.out.below hB67)))).mono ?_
                    rintro e v69 ⟨rfl, hb70⟩
                    have hB68 := hB67.trans (hb70.mono hB67.size)
                    refine hK.out _ _ (fun _ => hB68) ?_
                    clear hK K
                    refine wpAnyF_one (i := 12) (by kernel_rfl) rfl (fun K hK => ?_)
                    go_simp
                    refine hK.out _ _ (fun _ => hB68) ?_
                    clear hK K
                    refine wpAnyF_two (i := 13) (j := 14) (by kernel_rfl) rfl rfl (fun K hK => ?_) (fun K hK => ?_)
                    · go_simp
                      refine hK.out _ _ (fun _ => hB68) ?_
                      clear hK K
                      refine wpAnyF_two (i := 14) (j := 15) (by kernel_rfl) rfl rfl (fun K hK => ?_) (fun K hK => ?_)
                      · go_simp
                        refine hK.out _ _ (fun _ => hB68) ?_
                        clear hK K
                        refine wpAnyF_one (i := 15) (by kernel_rfl) rfl (fun K hK => ?_)
                        go_simp
                        refine hK.out _ _ (fun _ => hB68) ?_
                        clear hK K
                        refine wpAnyF_one (i := 16) (by kernel_rfl) rfl (fun K hK => ?_)
                        go_simp
                        refine hK.out _ _ (fun _ => hB68) ?_
                        clear hK K
                        refine wpAnyF_done (by kernel_rfl) ?_ _
                        refine NoPanic.normal ?_
                        go_wp2_with fail
                        go_meet
                        case rel => exact ⟨rfl, rfl, hB68⟩
                      · go_simp
                        refine hK.out _ _ (fun _ => hB68) ?_
                        clear hK K
                        refine wpAnyF_one (i := 14) (by kernel_rfl) rfl (fun K hK => ?_)
                        go_simp
                        refine hK.out _ _ (fun _ => hB68) ?_
                        clear hK K
                        refine wpAnyF_one (i := 16) (by kernel_rfl) rfl (fun K hK => ?_)
                        go_simp
                        refine hK.out _ _ (fun _ => hB68) ?_
                        clear hK K
                        refine wpAnyF_done (by kernel_rfl) ?_ _
                        refine NoPanic.normal ?_
                        go_wp2_with fail
                        go_meet
                        case rel => exact ⟨rfl, rfl, hB68⟩
                    · go_simp
                      refine hK.out _ _ (fun _ => hB68) ?_
                      clear hK K
                      refine wpAnyF_one (i := 13) (by kernel_rfl) rfl (fun K hK => ?_)
                      go_simp
                      refine hK.out _ _ (fun _ => hB68) ?_
                      clear hK K
                      refine wpAnyF_one (i := 15) (by kernel_rfl) rfl (fun K hK => ?_)
                      go_simp
                      refine hK.out _ _ (fun _ => hB68) ?_
                      clear hK K
                      refine wpAnyF_one (i := 16) (by kernel_rfl) rfl (fun K hK => ?_)
                      go_simp
                      refine hK.out _ _ (fun _ => hB68) ?_
                      clear hK K
                      refine wpAnyF_done (by kernel_rfl) ?_ _
                      refine NoPanic.normal ?_
                      go_wp2_with fail
                      go_meet
                      case rel => exact ⟨rfl, rfl, hB68⟩
                case rest =>
                  obtain ⟨rfl, rfl, hbc⟩ := hcut
                  rename World => wc
                  have hwc := hwp.trans (hbc.mono hwp.size)
                  have Gc := Lib.hid (box_step hbc Gp.out)
                  by_cases t1 : 0 ≤ r1
                  · by_cases t2 : a1 < 0
                    · go_wp2_with fail
                      go_roundw
                      case rel => exact ⟨k + 1, by omega, by go_num, by rw [Hs6.out]; unfold fewStep; rw [if_pos ⟨t1, .inl t2⟩], by rw [Hs6.out]; unfold fewStep; rw [if_pos ⟨t1, .inl t2⟩], hwc, Gc.out⟩
                      case measure => simp [intOf]; omega
                    · by_cases t3 : r1 < a1
                      · go_wp2_with fail
                        go_roundw
                        case rel => exact ⟨k + 1, by omega, by go_num, by rw [Hs6.out]; unfold fewStep; rw [if_pos ⟨t1, .inr (.inl t3)⟩], by rw [Hs6.out]; unfold fewStep; rw [if_pos ⟨t1, .inr (.inl t3)⟩], hwc, Gc.out⟩
                        case measure => simp [intOf]; omega
                      · by_cases t4 : r1 = a1
                        · have t4b : (r1 == a1) = true := by simpa using t4
                          have T4 := Lib.hid t4
                          clear t4
                          by_cases t5 : r2 < a2
                          · go_wp2_with fail
                            go_roundw
                            case rel => exact ⟨k + 1, by omega, by go_num, by rw [Hs6.out]; unfold fewStep; rw [if_pos ⟨t1, .inr (.inr ⟨T4.out, t5⟩)⟩], by rw [Hs6.out]; unfold fewStep; rw [if_pos ⟨t1, .inr (.inr ⟨T4.out, t5⟩)⟩], hwc, Gc.out⟩
                            case measure => simp [intOf]; omega
                          · go_wp2_with fail
                            go_roundw
                            case rel => exact ⟨k + 1, by omega, by go_num, by rw [Hs6.out]; unfold fewStep; rw [if_neg (fun h => by obtain ⟨_, h⟩ := h; exact h.elim t2 (fun h => h.elim t3 fun h => t5 h.2))], by rw [Hs6.out]; unfold fewStep; rw [if_neg (fun h => by obtain ⟨_, h⟩ := h; exact h.elim t2 (fun h => h.elim t3 fun h => t5 h.2))], hwc, Gc.out⟩
                            case measure => simp [intOf]; omega
                        · have t4b : (r1 == a1) = false := by simpa using t4
                          go_wp2_with fail
                          go_roundw
                          case rel => exact ⟨k + 1, by omega, by go_num, by rw [Hs6.out]; unfold fewStep; rw [if_neg (fun h => by obtain ⟨_, h⟩ := h; exact h.elim t2 (fun h => h.elim t3 fun h => t4 h.1))], by rw [Hs6.out]; unfold fewStep; rw [if_neg (fun h => by obtain ⟨_, h⟩ := h; exact h.elim t2 (fun h => h.elim t3 fun h => t4 h.1))], hwc, Gc.out⟩
                          case measure => simp [intOf]; omega
                  · go_wp2_with fail
                    go_roundw
                    case rel => exact ⟨k + 1, by omega, by go_num, by rw [Hs6.out]; unfold fewStep; rw [if_neg (fun h => t1 h.1)], by rw [Hs6.out]; unfold fewStep; rw [if_neg (fun h => t1 h.1)], hwc, Gc.out⟩
                    case measure => simp [intOf]; omega
        · obtain rfl : k = (legalDs d).length := by omega
          have hkI : ¬ ((legalDs d).length : Int) < ((legalDs d).length : Int) := by omega
          go_wp2_with fail
          go_ret2
          exact ⟨rfl, hwo⟩
theorem Fewest_any (d : DDay) (hd : DayOk d) : ∀ (f : Nat) (begins : List (List Nat)), restM (segN d.blocks) begins ≤ f → begins.length + f ≤ 1100 → (∀ l ∈ begins, IsDuty d l) → ∀ (u z vl vb : Value) (w : World), DayAt w u z d → RowsAt w vl ((legalDs d).map natsI) → RowsAt w vb (begins.map natsI) →
    Calls Tryz.prog 31 #[.agg #[.int .i64 d.law.piece, .int .i64 d.law.drive, .int .i64 d.law.spread, .int .i64 d.law.brk, .int .i64 d.law.on, .int .i64 d.law.off, .int .i64 d.law.least, .int .i64 d.law.pieces, u, z], vl, vb] w (Gives w (.tuple #[.int .i64 (fewL d f begins).1, .int .i64 (fewL d f begins).2])) := by
  have hn : segN d.blocks ≤ 16 := by have := hd.segs; omega
  intro f
  induction f with
  | zero =>
    intro begins hf hlen hbd u z vl vb w hda hvl hvb
    cases hfr : freeS (segN d.blocks) begins with
    | none =>
      rw [few_none hfr]
      exact Fewest_none d hd begins u z vl vb w hda hvl hvb (by omega) hbd hfr
    | some s => exact absurd (free_some hn hfr).2.2 (by omega)
  | succ f ih =>
    intro begins hf hlen hbd u z vl vb w hda hvl hvb
    cases hfr : freeS (segN d.blocks) begins with
    | none =>
      rw [few_none hfr]
      exact Fewest_none d hd begins u z vl vb w hda hvl hvb (by omega) hbd hfr
    | some s =>
      rw [few_some hfr]
      refine Fewest_some d hd begins u z vl vb w hda hvl hvb (by omega) hbd f s hfr fun l hl hfit u z vl vb w hda hvl hvb => ?_
      refine ih (begins ++ [l]) ?_ (by simp; omega) ?_ u z vl vb w hda hvl hvb
      · have := restM_snoc hn hfr hfit
        omega
      · intro x hx
        rcases List.mem_append.1 hx with hx | hx
        · exact hbd x hx
        · obtain rfl : x = l := by simpa using hx
          obtain ⟨y, h0, hy, rfl, _⟩ := mem_legalDs.1 hl
          exact isDuty_bits hy h0
end Go.Proofs.YtllobkhdeahgpaaGreat
