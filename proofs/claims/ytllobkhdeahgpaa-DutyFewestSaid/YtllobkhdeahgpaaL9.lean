import Derived.Test.YtllobkhdeahgpaaE5
set_option linter.unusedVariables false
set_option linter.unusedSimpArgs false
namespace Go.Proofs.Ytllobkhdeahgpaa
open Go Go.Proofs Go.RowKit

/-! ### DutyFewest -/
theorem sumI_take {l : List Int} {k : Nat} {x : Int} (h : l[k]? = some x) : sumI (l.take (k + 1)) = sumI (l.take k) + x := by
  rw [List.take_add_one, h, sumI_append]
  simp [sumI]
theorem sumI_bd {M : Int} (hM : 0 ≤ M) : ∀ {l : List Int}, (∀ x ∈ l, 0 ≤ x ∧ x ≤ M) → 0 ≤ sumI l ∧ sumI l ≤ l.length * M
  | [], _ => by simp [sumI]
  | a :: t, h => by
    have h1 := sumI_bd hM (l := t) fun x hx => h x (by simp [hx])
    have h2 := h a (by simp)
    simp only [sumI, List.length_cons]
    push_cast
    rw [Int.add_mul]
    omega
theorem payL_bd {d : DDay} (hd : DayOk d) (l : List Nat) : 0 ≤ payL d l ∧ payL d l ≤ 20000 := by
  have h1 := spread_bd hd (piecesL d l)
  have h2 := hd.law.least
  unfold payL
  omega
/-- What some duties are paid. -/
def paysK (d : DDay) (p : List (List Nat)) (k : Nat) : Int := sumI ((p.take k).map (payL d))
theorem paysK_succ {d : DDay} {p : List (List Nat)} {k : Nat} {l : List Nat} (h : p[k]? = some l) : paysK d p (k + 1) = paysK d p k + payL d l := by
  unfold paysK
  rw [List.map_take, List.map_take]
  refine sumI_take ?_
  rw [List.getElem?_map, h]
  rfl
theorem paysK_bd {d : DDay} (hd : DayOk d) (p : List (List Nat)) {k : Nat} (hk : k ≤ 1000) : 0 ≤ paysK d p k ∧ paysK d p k ≤ 20000000 := by
  have h := sumI_bd (M := 20000) (by omega) (l := (p.take k).map (payL d)) fun x hx => by
    obtain ⟨l, _, rfl⟩ := List.mem_map.1 hx
    exact payL_bd hd l
  unfold paysK
  have e : (((p.take k).map (payL d)).length : Int) * 20000 ≤ 1000 * 20000 := Int.mul_le_mul_of_nonneg_right (by simp; omega) (by omega)
  omega
theorem map_natsI_get {p : List (List Nat)} {k : Nat} {l : List Int} (h : (p.map natsI)[k]? = some l) : ∃ m, l = natsI m ∧ p[k]? = some m := by
  rw [List.getElem?_map] at h
  cases e : p[k]? with
  | none => rw [e] at h; simp at h
  | some m => rw [e] at h; simp at h; exact ⟨m, h.symm, rfl⟩
set_option maxRecDepth 100000 in
set_option maxHeartbeats 800000 in
theorem Fewest_dark_a (d : DDay) (u z v : Value) (ll : List (List Int)) (w : World) (hda : DayAt w u z d) (hv : RowsAt w v ll) (hr : lightB d = false) :
    Calls Try.prog 9 #[.agg #[.int .i64 d.law.piece, .int .i64 d.law.drive, .int .i64 d.law.spread, .int .i64 d.law.brk, .int .i64 d.law.on, .int .i64 d.law.off, .int .i64 d.law.least, .int .i64 d.law.pieces, u, z], v] w (Gives w (.bool true)) := by
  obtain ⟨AW, cW, rfl, _, _⟩ := hv.form
  have Hv := Lib.hid hv
  clear hv
  have Hr := Lib.hid hr
  clear hr
  obtain ⟨A1, c1, rfl, _, _⟩ := hda.blocks.form
  obtain ⟨A2, c2, rfl, _, _⟩ := hda.walk.form
  have hw0 : Below w.heap.size w (w.alloc (.cells #[.int .i64 d.law.piece, .int .i64 d.law.drive, .int .i64 d.law.spread, .int .i64 d.law.brk, .int .i64 d.law.on, .int .i64 d.law.off, .int .i64 d.law.least, .int .i64 d.law.pieces, .slice A1 d.blocks.length c1, .slice A2 d.walk.length c2] 27)) := (Below.refl _ _).alloc (Nat.le_refl _) _
  have G0 := Lib.hid (heap_alloc_new w (.cells #[.int .i64 d.law.piece, .int .i64 d.law.drive, .int .i64 d.law.spread, .int .i64 d.law.brk, .int .i64 d.law.on, .int .i64 d.law.off, .int .i64 d.law.least, .int .i64 d.law.pieces, .slice A1 d.blocks.length c1, .slice A2 d.walk.length c2] 27 (0, 0)))
  have Hda := Lib.hid hda

  clear hda
  go_enter Try.func9, Try.ntmps9
  have gc := box_cells G0.out
  have gf := box_frozen G0.out
  go_wp2_with fail
  refine (Gives.to Hr.out (light_any d _ _ _ (Hda.out.below hw0))).mono ?_
  rintro e w1 ⟨rfl, hb1⟩
  have hw1 := hw0.trans (hb1.mono hw0.size)
  have G1 := Lib.hid (box_step hb1 G0.out)
  replace gc := box_cells G1.out
  replace gf := box_frozen G1.out
  go_wp2_with fail
  refine (wakes_any _).mono ?_
  rintro e w2 ⟨rfl, hb2⟩
  have hw2 := hw1.trans (hb2.mono hw1.size)
  have G2 := Lib.hid (box_step hb2 G1.out)
  replace gc := box_cells G2.out
  replace gf := box_frozen G2.out
  go_wp2
  go_ret
  exact ⟨rfl, hw2⟩
set_option maxRecDepth 100000 in
set_option maxHeartbeats 800000 in
theorem Fewest_dark_b (d : DDay) (u z v : Value) (ll : List (List Int)) (w : World) (hda : DayAt w u z d) (hv : RowsAt w v ll) (hr : lightB d = true) (hs : shortB ll = false) :
    Calls Try.prog 9 #[.agg #[.int .i64 d.law.piece, .int .i64 d.law.drive, .int .i64 d.law.spread, .int .i64 d.law.brk, .int .i64 d.law.on, .int .i64 d.law.off, .int .i64 d.law.least, .int .i64 d.law.pieces, u, z], v] w (Gives w (.bool true)) := by
  obtain ⟨AW, cW, rfl, _, _⟩ := hv.form
  have Hv := Lib.hid hv
  clear hv
  have Hr := Lib.hid hr
  clear hr
  have Hs := Lib.hid hs
  clear hs
  obtain ⟨A1, c1, rfl, _, _⟩ := hda.blocks.form
  obtain ⟨A2, c2, rfl, _, _⟩ := hda.walk.form
  have hw0 : Below w.heap.size w (w.alloc (.cells #[.int .i64 d.law.piece, .int .i64 d.law.drive, .int .i64 d.law.spread, .int .i64 d.law.brk, .int .i64 d.law.on, .int .i64 d.law.off, .int .i64 d.law.least, .int .i64 d.law.pieces, .slice A1 d.blocks.length c1, .slice A2 d.walk.length c2] 27)) := (Below.refl _ _).alloc (Nat.le_refl _) _
  have G0 := Lib.hid (heap_alloc_new w (.cells #[.int .i64 d.law.piece, .int .i64 d.law.drive, .int .i64 d.law.spread, .int .i64 d.law.brk, .int .i64 d.law.on, .int .i64 d.law.off, .int .i64 d.law.least, .int .i64 d.law.pieces, .slice A1 d.blocks.length c1, .slice A2 d.walk.length c2] 27 (0, 0)))
  have Hda := Lib.hid hda

  clear hda
  go_enter Try.func9, Try.ntmps9
  have gc := box_cells G0.out
  have gf := box_frozen G0.out
  go_wp2_with fail
  refine (Gives.to Hr.out (light_any d _ _ _ (Hda.out.below hw0))).mono ?_
  rintro e w1 ⟨rfl, hb1⟩
  have hw1 := hw0.trans (hb1.mono hw0.size)
  have G1 := Lib.hid (box_step hb1 G0.out)
  replace gc := box_cells G1.out
  replace gf := box_frozen G1.out
  go_wp2_with fail
  refine (Gives.to Hs.out (shortR_any _ ll _ (Hv.out.below hw1))).mono ?_
  rintro e w2 ⟨rfl, hb2⟩
  have hw2 := hw1.trans (hb2.mono hw1.size)
  have G2 := Lib.hid (box_step hb2 G1.out)
  replace gc := box_cells G2.out
  replace gf := box_frozen G2.out
  go_wp2_with fail
  refine (wakes_any _).mono ?_
  rintro e w3 ⟨rfl, hb3⟩
  have hw3 := hw2.trans (hb3.mono hw2.size)
  have G3 := Lib.hid (box_step hb3 G2.out)
  replace gc := box_cells G3.out
  replace gf := box_frozen G3.out
  go_wp2
  go_ret
  exact ⟨rfl, hw3⟩
set_option maxRecDepth 100000 in
set_option maxHeartbeats 1600000 in
theorem Fewest_none (d : DDay) (u z v : Value) (ll : List (List Int)) (w : World) (hda : DayAt w u z d) (hv : RowsAt w v ll) (hr : lightB d = true) (hs : shortB ll = true) (hc : (bestV d).can = false) :
    Calls Try.prog 9 #[.agg #[.int .i64 d.law.piece, .int .i64 d.law.drive, .int .i64 d.law.spread, .int .i64 d.law.brk, .int .i64 d.law.on, .int .i64 d.law.off, .int .i64 d.law.least, .int .i64 d.law.pieces, u, z], v] w (Gives w (.bool true)) := by
  obtain ⟨AW, cW, rfl, _, _⟩ := hv.form
  have Hv := Lib.hid hv
  clear hv
  have hlt := hr
  unfold lightB at hlt
  rw [Bool.and_eq_true, decide_eq_true_eq] at hlt
  obtain ⟨_, hm, hf, hf0⟩ := ready_ok hlt.1
  have h8 := hlt.2
  have hd := fault_ok hf
  have hsl : ll.length ≤ 12 ∧ ∀ (j : Nat) (l : List Int), ll[j]? = some l → l.length ≤ 1000 := by
    simp only [shortB, Bool.and_eq_true, decide_eq_true_eq, List.all_eq_true] at hs
    exact ⟨hs.1, fun j l hl => by have := hs.2 l (List.mem_of_getElem? hl); omega⟩
  obtain ⟨hl12, hlr⟩ := hsl
  have Hlr := Lib.hid hlr
  have Hd := Lib.hid hd
  have Hf := Lib.hid hf
  have Hr := Lib.hid hr
  have Hs := Lib.hid hs
  have HPl := Lib.hid (fun h : proveB d ll = true => plan_of_prove h)
  have Hcan := Lib.hid hc
  have hE : bestE d = 9 ∧ bestLen d = 0 := by unfold bestE bestLen; rw [hc]; exact ⟨rfl, rfl⟩
  have HE := Lib.hid hE
  have hno : proveB d ll = false := by
    cases hp : proveB d ll with
    | false => rfl
    | true =>
      have := best_exists (by omega) (plan_of_prove hp).1
      rw [hc] at this
      cases this
  have Hno := Lib.hid hno
  clear hE hno
  clear hlt hd hf hf0 hr hs hlr hc
  obtain ⟨A1, c1, rfl, _, _⟩ := hda.blocks.form
  obtain ⟨A2, c2, rfl, _, _⟩ := hda.walk.form
  have hw0 : Below w.heap.size w (w.alloc (.cells #[.int .i64 d.law.piece, .int .i64 d.law.drive, .int .i64 d.law.spread, .int .i64 d.law.brk, .int .i64 d.law.on, .int .i64 d.law.off, .int .i64 d.law.least, .int .i64 d.law.pieces, .slice A1 d.blocks.length c1, .slice A2 d.walk.length c2] 27)) := (Below.refl _ _).alloc (Nat.le_refl _) _
  have G0 := Lib.hid (heap_alloc_new w (.cells #[.int .i64 d.law.piece, .int .i64 d.law.drive, .int .i64 d.law.spread, .int .i64 d.law.brk, .int .i64 d.law.on, .int .i64 d.law.off, .int .i64 d.law.least, .int .i64 d.law.pieces, .slice A1 d.blocks.length c1, .slice A2 d.walk.length c2] 27 (0, 0)))
  have Hda := Lib.hid hda

  clear hda
  go_enter Try.func9, Try.ntmps9
  have gc := box_cells G0.out
  have gf := box_frozen G0.out
  go_wp2_with fail
  refine (Gives.to Hr.out (light_any d _ _ _ (Hda.out.below hw0))).mono ?_
  rintro e w1 ⟨rfl, hb1⟩
  have hw1 := hw0.trans (hb1.mono hw0.size)
  have G1 := Lib.hid (box_step hb1 G0.out)
  replace gc := box_cells G1.out
  replace gf := box_frozen G1.out
  go_wp2_with fail
  refine (Gives.to Hs.out (shortR_any _ ll _ (Hv.out.below hw1))).mono ?_
  rintro e w2 ⟨rfl, hb2⟩
  have hw2 := hw1.trans (hb2.mono hw1.size)
  have G2 := Lib.hid (box_step hb2 G1.out)
  replace gc := box_cells G2.out
  replace gf := box_frozen G2.out
  go_wp2_with fail
  refine (DayC_any d _ _ _ (Hda.out.below hw2) hm).mono ?_
  rintro e w3 ⟨B13, B23, e13, e23, rfl, hd3, hb3⟩
  have hw3 := hw2.trans (hb3.mono hw2.size)
  have G3 := Lib.hid (box_step hb3 G2.out)
  replace gc := box_cells G3.out
  replace gf := box_frozen G3.out
  go_wp2_with fail
  refine (Best1_any d _ _ _ hd3 hm Hf.out).mono ?_
  rintro e w4 ⟨AP, cP, rfl, hP, hb4⟩
  have hw4 := hw3.trans (hb4.mono hw3.size)
  have G4 := Lib.hid (box_step hb4 G3.out)
  replace gc := box_cells G4.out
  replace gf := box_frozen G4.out
  have hE := HE.out
  rw [hE.1, hE.2]
  clear hE hP
  clear hd3
  go_wp2_with fail
  refine (DayC_any d _ _ _ (Hda.out.below hw4) hm).mono ?_
  rintro e w5 ⟨B15, B25, e15, e25, rfl, hd5, hb5⟩
  have hw5 := hw4.trans (hb5.mono hw4.size)
  have G5 := Lib.hid (box_step hb5 G4.out)
  replace gc := box_cells G5.out
  replace gf := box_frozen G5.out
  go_wp2_with fail
  refine (rows_any _ ll _ (Hv.out.below hw5) (by omega) Hlr.out).mono ?_
  rintro e w6 ⟨AR, cR, us, rfl, hor, hrr, hb6⟩
  have hw6 := hw5.trans (hb6.mono hw5.size)
  have G6 := Lib.hid (box_step hb6 G5.out)
  replace gc := box_cells G6.out
  replace gf := box_frozen G6.out
  have hRR := rows_of_own hor hrr
  clear hor hrr
  go_wp2_with fail
  refine (Gives.to Hno.out (ProvePlan_any d _ _ _ ll _ (hd5.below hb6) hm hRR Hlr.out)).mono ?_
  rintro e w7 ⟨rfl, hb7⟩
  have hw7 := hw6.trans (hb7.mono hw6.size)
  have G7 := Lib.hid (box_step hb7 G6.out)
  replace gc := box_cells G7.out
  replace gf := box_frozen G7.out
  clear hd5 hRR
  go_wp2_with fail
  refine (wakes_any _).mono ?_
  rintro e w8 ⟨rfl, hb8⟩
  have hw8 := hw7.trans (hb8.mono hw7.size)
  have G8 := Lib.hid (box_step hb8 G7.out)
  replace gc := box_cells G8.out
  replace gf := box_frozen G8.out
  go_wp2
  go_ret
  exact ⟨rfl, hw8⟩
set_option maxRecDepth 100000 in
set_option maxHeartbeats 12800000 in
theorem Fewest_some (d : DDay) (u z v : Value) (ll : List (List Int)) (w : World) (hda : DayAt w u z d) (hv : RowsAt w v ll) (hr : lightB d = true) (hs : shortB ll = true) (hc : (bestV d).can = true) :
    Calls Try.prog 9 #[.agg #[.int .i64 d.law.piece, .int .i64 d.law.drive, .int .i64 d.law.spread, .int .i64 d.law.brk, .int .i64 d.law.on, .int .i64 d.law.off, .int .i64 d.law.least, .int .i64 d.law.pieces, u, z], v] w (Gives w (.bool true)) := by
  obtain ⟨AW, cW, rfl, _, _⟩ := hv.form
  have Hv := Lib.hid hv
  clear hv
  have hlt := hr
  unfold lightB at hlt
  rw [Bool.and_eq_true, decide_eq_true_eq] at hlt
  obtain ⟨_, hm, hf, hf0⟩ := ready_ok hlt.1
  have h8 := hlt.2
  have hd := fault_ok hf
  have hsl : ll.length ≤ 12 ∧ ∀ (j : Nat) (l : List Int), ll[j]? = some l → l.length ≤ 1000 := by
    simp only [shortB, Bool.and_eq_true, decide_eq_true_eq, List.all_eq_true] at hs
    exact ⟨hs.1, fun j l hl => by have := hs.2 l (List.mem_of_getElem? hl); omega⟩
  obtain ⟨hl12, hlr⟩ := hsl
  have Hlr := Lib.hid hlr
  have Hd := Lib.hid hd
  have Hf := Lib.hid hf
  have Hr := Lib.hid hr
  have Hs := Lib.hid hs
  have HPl := Lib.hid (fun h : proveB d ll = true => plan_of_prove h)
  have Hcan := Lib.hid hc
  have hbp := best_plan (by omega) hc
  have hbl := best_few hd hc
  have hbpay : paysK d (bestP d) (bestP d).length = (bestV d).pay := by
    unfold paysK
    rw [List.take_length]
    exact best_pay (by omega) hc
  have hE : bestE d = 0 ∧ bestLen d = (bestP d).length ∧ bestPay d = (bestV d).pay ∧ bestR d = bestP d := by unfold bestE bestLen bestPay bestR; rw [hc]; exact ⟨rfl, rfl, rfl, rfl⟩
  have Hprove := Lib.hid (prove_of_plan hf hbp)
  have Hord := Lib.hid (best_ordered (by omega) hc)
  have Hbp := Lib.hid hbp
  have Hbpay := Lib.hid hbpay
  have HE := Lib.hid hE
  have Hleast := Lib.hid (fun (plan : List (List Nat)) (h : IsPlan d plan) => best_least (by omega) hc h)
  have Hblen := Lib.hid (best_len (by omega) hc)
  clear hbp hbpay hE
  clear hlt hd hf hf0 hr hs hlr hc
  obtain ⟨A1, c1, rfl, _, _⟩ := hda.blocks.form
  obtain ⟨A2, c2, rfl, _, _⟩ := hda.walk.form
  have hw0 : Below w.heap.size w (w.alloc (.cells #[.int .i64 d.law.piece, .int .i64 d.law.drive, .int .i64 d.law.spread, .int .i64 d.law.brk, .int .i64 d.law.on, .int .i64 d.law.off, .int .i64 d.law.least, .int .i64 d.law.pieces, .slice A1 d.blocks.length c1, .slice A2 d.walk.length c2] 27)) := (Below.refl _ _).alloc (Nat.le_refl _) _
  have G0 := Lib.hid (heap_alloc_new w (.cells #[.int .i64 d.law.piece, .int .i64 d.law.drive, .int .i64 d.law.spread, .int .i64 d.law.brk, .int .i64 d.law.on, .int .i64 d.law.off, .int .i64 d.law.least, .int .i64 d.law.pieces, .slice A1 d.blocks.length c1, .slice A2 d.walk.length c2] 27 (0, 0)))
  have Hda := Lib.hid hda

  clear hda
  go_enter Try.func9, Try.ntmps9
  have gc := box_cells G0.out
  have gf := box_frozen G0.out
  go_wp2_with fail
  refine (Gives.to Hr.out (light_any d _ _ _ (Hda.out.below hw0))).mono ?_
  rintro e w1 ⟨rfl, hb1⟩
  have hw1 := hw0.trans (hb1.mono hw0.size)
  have G1 := Lib.hid (box_step hb1 G0.out)
  replace gc := box_cells G1.out
  replace gf := box_frozen G1.out
  go_wp2_with fail
  refine (Gives.to Hs.out (shortR_any _ ll _ (Hv.out.below hw1))).mono ?_
  rintro e w2 ⟨rfl, hb2⟩
  have hw2 := hw1.trans (hb2.mono hw1.size)
  have G2 := Lib.hid (box_step hb2 G1.out)
  replace gc := box_cells G2.out
  replace gf := box_frozen G2.out
  go_wp2_with fail
  refine (DayC_any d _ _ _ (Hda.out.below hw2) hm).mono ?_
  rintro e w3 ⟨B13, B23, e13, e23, rfl, hd3, hb3⟩
  have hw3 := hw2.trans (hb3.mono hw2.size)
  have G3 := Lib.hid (box_step hb3 G2.out)
  replace gc := box_cells G3.out
  replace gf := box_frozen G3.out
  go_wp2_with fail
  refine (Best1_any d _ _ _ hd3 hm Hf.out).mono ?_
  rintro e w4 ⟨AP, cP, rfl, hP, hb4⟩
  have hw4 := hw3.trans (hb4.mono hw3.size)
  have G4 := Lib.hid (box_step hb4 G3.out)
  replace gc := box_cells G4.out
  replace gf := box_frozen G4.out
  have hE := HE.out
  rw [hE.1, hE.2.1, hE.2.2.1, ← Hbpay.out]
  rw [hE.2.1, hE.2.2.2] at hP
  have HP := Lib.hid hP
  clear hE hP
  clear hd3
  go_wp2_with fail
  refine (DayC_any d _ _ _ (Hda.out.below hw4) hm).mono ?_
  rintro e w5 ⟨B15, B25, e15, e25, rfl, hd5, hb5⟩
  have hw5 := hw4.trans (hb5.mono hw4.size)
  have G5 := Lib.hid (box_step hb5 G4.out)
  replace gc := box_cells G5.out
  replace gf := box_frozen G5.out
  go_wp2_with fail
  refine (rows_any _ ll _ (Hv.out.below hw5) (by omega) Hlr.out).mono ?_
  rintro e w6 ⟨AR, cR, us, rfl, hor, hrr, hb6⟩
  have hw6 := hw5.trans (hb6.mono hw5.size)
  have G6 := Lib.hid (box_step hb6 G5.out)
  replace gc := box_cells G6.out
  replace gf := box_frozen G6.out
  have hRR := rows_of_own hor hrr
  clear hor hrr
  go_wp2_with fail
  refine ((ProvePlan_any d _ _ _ ll _ (hd5.below hb6) hm hRR Hlr.out)).mono ?_
  rintro e w7 ⟨rfl, hb7⟩
  have hw7 := hw6.trans (hb7.mono hw6.size)
  have G7 := Lib.hid (box_step hb7 G6.out)
  replace gc := box_cells G7.out
  replace gf := box_frozen G7.out
  clear hd5 hRR
  have HP2 := Lib.hid (HP.out.below (hb5.trans ((hb6.trans (hb7.mono hb6.size)).mono hb5.size)))
  clear HP
  obtain ⟨IS, hIS⟩ : ∃ b, proveB d ll = b := ⟨_, rfl⟩
  rw [hIS] at HPl ⊢
  have HIS := Lib.hid hIS
  clear hIS
  obtain ⟨PL, hPL⟩ : ∃ n, (bestP d).length = n := ⟨_, rfl⟩
  rw [hPL] at hbl HP2 Hbpay ⊢
  have HPL := Lib.hid hPL
  clear hPL
  obtain ⟨PP, hPP⟩ : ∃ n, paysK d (bestP d) PL = n := ⟨_, rfl⟩
  rw [hPP] at Hbpay ⊢
  have HPP := Lib.hid hPP
  clear hPP
  go_wp2
  go_loopw [9, 10] (fun s i wr => ∃ k : Nat, k ≤ PL ∧ i = .int .i64 k ∧ s = .int .i64 (paysK d (bestP d) k) ∧ Below w7.heap.size w7 wr) (fun s i wr => PL - (intOf i).toNat)
  case atStart => exact ⟨0, by omega, rfl, rfl, Below.refl _ _⟩
  case round =>
    obtain ⟨k, hk, rfl, rfl, hbr⟩ := hrel
    obtain ⟨wo, rfl⟩ : ∃ wx : World, wx = wr := ⟨_, rfl⟩
    have hwo := hw7.trans (hbr.mono hw7.size)
    have Go := Lib.hid (box_step hbr G7.out)
    replace gc := box_cells Go.out
    replace gf := box_frozen Go.out
    have HPo := Lib.hid (HP2.out.below hbr)
    by_cases hlt : k < PL
    · skip
      obtain ⟨b, o, l, y, rfl, hl, cl, hnl, _⟩ := HPo.out.at_ (k := k) (by rw [List.length_map, HPL.out]; exact hlt)
      obtain ⟨m, rfl, hm0⟩ := map_natsI_get hl
      obtain ⟨AL, cL, rfl, _, _⟩ := hnl.form
      have hdu := Hbp.out.duty m (List.mem_of_getElem? hm0)
      have hle := Hbp.out.legal m (List.mem_of_getElem? hm0)
      have hsu := paysK_succ (d := d) hm0
      have hb0 := paysK_bd Hd.out (bestP d) (k := k) (by omega)
      have hb1 := payL_bd Hd.out m
      have Hdu := Lib.hid hdu
      have hdl := duty_len hdu
      have Hle := Lib.hid hle
      have hkI : (k : Int) < (PL : Int) := by omega
      have qs : IntKind.i64.wrap (paysK d (bestP d) k + payL d m) = paysK d (bestP d) (k + 1) := by rw [hsu, IntWalk.i64_in _ (by omega)]
      have Qs := Lib.hid qs
      have Hsu := Lib.hid hsu
      clear hl hm0 hdu hle hsu qs
      generalize paysK d (bestP d) k = SK at *
      go_wp2_with fail
      refine wp_region_noPanic ?_
      refine wp_region_ph [([0, 2, 3, 4, 5], [1, 6, 7]), ([8, 9, 10], [11, 12])] (fun _ => true) (fun w' => Below wo.heap.size wo w') (by kernel_rfl) (by kernel_rfl) (fun _ _ _ _ _ h => h) ?_
      have hb8 : Below wo.heap.size wo wo.drew := (Below.refl _ _).drew
      have HS8 := Lib.hid hb8
      obtain ⟨w8, hwe8⟩ : ∃ W, W = wo.drew := ⟨_, rfl⟩
      rw [← hwe8] at hb8 HS8 ⊢
      clear hwe8
      have hw8 := hwo.trans (hb8.mono hwo.size)
      have G8 := Lib.hid (box_step hb8 Go.out)
      replace gc := box_cells G8.out
      replace gf := box_frozen G8.out
      refine wpPh_cons HS8.out (fun hne => ?_)
      have n0 := fun x : Meets (fun w' => Below wo.heap.size wo w') => cell_below x.property (box_cells Go.out 0)
      have n1 := fun x : Meets (fun w' => Below wo.heap.size wo w') => cell_below x.property (box_cells Go.out 1)
      have n2 := fun x : Meets (fun w' => Below wo.heap.size wo w') => cell_below x.property (box_cells Go.out 2)
      have n3 := fun x : Meets (fun w' => Below wo.heap.size wo w') => cell_below x.property (box_cells Go.out 3)
      have n4 := fun x : Meets (fun w' => Below wo.heap.size wo w') => cell_below x.property (box_cells Go.out 4)
      have n5 := fun x : Meets (fun w' => Below wo.heap.size wo w') => cell_below x.property (box_cells Go.out 5)
      have n6 := fun x : Meets (fun w' => Below wo.heap.size wo w') => cell_below x.property (box_cells Go.out 6)
      have n7 := fun x : Meets (fun w' => Below wo.heap.size wo w') => cell_below x.property (box_cells Go.out 7)
      have n8 := fun x : Meets (fun w' => Below wo.heap.size wo w') => cell_below x.property (box_cells Go.out 8)
      have n9 := fun x : Meets (fun w' => Below wo.heap.size wo w') => cell_below x.property (box_cells Go.out 9)
      have n10 := fun x : Meets (fun w' => Below wo.heap.size wo w') => cell_below x.property (cl)
      simp only [pick, pickN, List.filterMap_cons, List.filterMap_nil, List.getElem?_cons_zero, List.getElem?_cons_succ, Option.map_some]
      repeat (change wpQuiet _ _ _ _ (_ :: _) _; go_big_quiet_step (fail))
      refine wpQuiet_nil ?_
      clear n0 n1 n2 n3 n4 n5 n6 n7 n8 n9 n10 hne
      refine wpSeqK_step (fun K hK => ?_)
      go_simp
      refine (DayC_any d _ _ _ (Hda.out.below hw8) hm).mono ?_
      rintro e w9 ⟨B1x, B2x, e1x, e2x, rfl, hdx, hb9⟩
      have HS9 := Lib.hid (HS8.out.trans (hb9.mono HS8.out.size))
      have hw9 := hw8.trans (hb9.mono hw8.size)
      have G9 := Lib.hid (box_step hb9 G8.out)
      replace gc := box_cells G9.out
      replace gf := box_frozen G9.out
      have Hx := Lib.hid hb9
      have hnl1 := (hnl.below HS8.out).below hb9
      refine hK.out _ _ (fun _ => HS9.out) ?_
      clear hK K
      refine wpSeqK_step (fun K hK => ?_)
      go_simp
      refine (copy_any _ (natsI m) _ hnl1 (by rw [natsI_len]; omega)).mono ?_
      rintro e w10 ⟨AC, cC, rfl, hoC, hb10⟩
      have HS10 := Lib.hid (HS9.out.trans (hb10.mono HS9.out.size))
      have hw10 := hw9.trans (hb10.mono hw9.size)
      have G10 := Lib.hid (box_step hb10 G9.out)
      replace gc := box_cells G10.out
      replace gf := box_frozen G10.out
      have HC := Lib.hid (nums_of_own hoC)
      clear hoC
      have Hy := Lib.hid hb10
      refine hK.out _ _ (fun _ => HS10.out) ?_
      clear hK K
      refine wpSeqK_step (fun K hK => ?_)
      go_simp
      refine (PayS_any d _ _ _ m _ (hdx.below Hy.out) hm Hf.out HC.out Hdu.out).mono ?_
      rintro e w11 ⟨rfl, hb11⟩
      have HS11 := Lib.hid (HS10.out.trans (hb11.mono HS10.out.size))
      have hw11 := hw10.trans (hb11.mono hw10.size)
      have G11 := Lib.hid (box_step hb11 G10.out)
      replace gc := box_cells G11.out
      replace gf := box_frozen G11.out
      rw [if_pos Hle.out, if_pos Hle.out]
      clear HC hdx hnl1 Hx Hy
      refine hK.out _ _ (fun _ => HS11.out) ?_
      clear hK K
      refine wpSeqK_nil ?_
      refine wpPh_cons HS11.out (fun hne => ?_)
      simp only [pick, pickN, List.filterMap_cons, List.filterMap_nil, List.getElem?_cons_zero, List.getElem?_cons_succ, Option.map_some]
      repeat (change wpQuiet _ _ _ _ (_ :: _) _; go_big_quiet_step (fail))
      refine wpQuiet_nil ?_
      clear  hne
      refine wpSeqK_step (fun K hK => ?_)
      go_simp
      refine hK.out _ _ (fun _ => HS11.out) ?_
      clear hK K
      refine wpSeqK_step (fun K hK => ?_)
      go_simp
      refine hK.out _ _ (fun _ => HS11.out) ?_
      clear hK K
      refine wpSeqK_nil ?_
      refine wpPh_nil ?_
      refine NoPanic.normal ?_
      generalize payL d m = PM at *
      go_wp2
      go_roundw
      case rel => exact ⟨k + 1, by omega, by go_num, by first | rw [Qs.out] | rw [Hsu.out], hbr.trans (HS11.out.mono hbr.size)⟩
      case measure => simp [intOf]; omega
    · obtain rfl : k = PL := by omega
      have hkI : ¬ (k : Int) < (k : Int) := by omega
      rw [HPP.out]
      have hne : (PP != PP) = false := by simp
      have HPm := Lib.hid (HPo.out)
      go_wp2_with fail
      refine (DayC_any d _ _ _ (Hda.out.below hwo) hm).mono ?_
      rintro e w8 ⟨B18, B28, e18, e28, rfl, hd8, hb8⟩
      have hw8 := hwo.trans (hb8.mono hwo.size)
      have G8 := Lib.hid (box_step hb8 Go.out)
      replace gc := box_cells G8.out
      replace gf := box_frozen G8.out
      go_wp2_with fail
      refine (rows_any _ ((bestP d).map natsI) _ (HPm.out.below hb8) (by rw [List.length_map, HPL.out]; omega) (fun j l hl => by obtain ⟨m, rfl, hm0⟩ := map_natsI_get hl; have := duty_len (Hbp.out.duty m (List.mem_of_getElem? hm0)); rw [natsI_len]; omega)).mono ?_
      rintro e w9 ⟨AR2, cR2, us2, rfl, hor, hrr, hb9⟩
      have hw9 := hw8.trans (hb9.mono hw8.size)
      have G9 := Lib.hid (box_step hb9 G8.out)
      replace gc := box_cells G9.out
      replace gf := box_frozen G9.out
      have hRR := rows_of_own hor hrr
      clear hor hrr
      have hlm : ((bestP d).map natsI).length = k := by rw [List.length_map, HPL.out]
      rw [hlm] at hRR ⊢
      go_wp2_with fail
      refine (Gives.to Hprove.out (ProvePlan_any d _ _ _ ((bestP d).map natsI) _ (hd8.below hb9) hm hRR (fun j l hl => by obtain ⟨m, rfl, hm0⟩ := map_natsI_get hl; have := duty_len (Hbp.out.duty m (List.mem_of_getElem? hm0)); rw [natsI_len]; omega))).mono ?_
      rintro e w10 ⟨rfl, hb10⟩
      have hw10 := hw9.trans (hb10.mono hw9.size)
      have G10 := Lib.hid (box_step hb10 G9.out)
      replace gc := box_cells G10.out
      replace gf := box_frozen G10.out
      clear hRR hd8 hlm
      have HP5 := Lib.hid (HPm.out.below (hb8.trans ((hb9.trans (hb10.mono hb9.size)).mono hb8.size)))
      go_wp2_with fail
      refine (Gives.to Hord.out (ordered_any _ ((bestP d).map natsI) _ HP5.out (by rw [List.length_map, HPL.out]; omega))).mono ?_
      rintro e w11 ⟨rfl, hb11⟩
      have hw11 := hw10.trans (hb11.mono hw10.size)
      have G11 := Lib.hid (box_step hb11 G10.out)
      replace gc := box_cells G11.out
      replace gf := box_frozen G11.out
      clear HP5 HPm HPo
      cases IS with
      | false =>
        go_wp2_with fail
        refine (wakes_any _).mono ?_
        rintro e w12 ⟨rfl, hb12⟩
        have hw12 := hw11.trans (hb12.mono hw11.size)
        have G12 := Lib.hid (box_step hb12 G11.out)
        replace gc := box_cells G12.out
        replace gf := box_frozen G12.out
        go_wp2
        go_ret
        exact ⟨rfl, hw12⟩
      | true =>
        obtain ⟨hpl, hna⟩ := HPl.out rfl
        have Hpl := Lib.hid hpl
        have Hna := Lib.hid hna
        clear hpl hna
        go_wp2
        go_loopw [13, 14] (fun s i wr => ∃ j : Nat, j ≤ ll.length ∧ i = .int .i64 j ∧ s = .int .i64 (paysK d (ll.map natsOf) j) ∧ Below w11.heap.size w11 wr) (fun s i wr => ll.length - (intOf i).toNat)
        case atStart => exact ⟨0, by omega, rfl, rfl, Below.refl _ _⟩
        case round =>
          obtain ⟨j, hj, rfl, rfl, hbr2⟩ := hrel
          obtain ⟨wp, rfl⟩ : ∃ wx : World, wx = wr := ⟨_, rfl⟩
          have hwp := hw11.trans (hbr2.mono hw11.size)
          have Gp := Lib.hid (box_step hbr2 G11.out)
          replace gc := box_cells Gp.out
          replace gf := box_frozen Gp.out
          have hvp := Hv.out.below hwp
          by_cases hlt2 : j < ll.length
          · skip
            obtain ⟨b, o, l, y, rfl, hl, cl, hnl, _⟩ := hvp.at_ (k := j) hlt2
            have hln := Hna.out l (List.mem_of_getElem? hl)
            obtain ⟨m, hm1⟩ : ∃ m, natsOf l = m := ⟨_, rfl⟩
            rw [hm1] at hln
            subst hln
            have hm0 : (ll.map natsOf)[j]? = some m := by rw [List.getElem?_map, hl, Option.map_some, hm1]
            obtain ⟨AL, cL, rfl, _, _⟩ := hnl.form
            have hdu := Hpl.out.duty m (List.mem_of_getElem? hm0)
            have hle := Hpl.out.legal m (List.mem_of_getElem? hm0)
            have hsu := paysK_succ (d := d) hm0
            have hb0 := paysK_bd Hd.out (ll.map natsOf) (k := j) (by omega)
            have hb1 := payL_bd Hd.out m
            have Hdu := Lib.hid hdu
            have hdl := duty_len hdu
            have Hle := Lib.hid hle
            have hkI2 : (j : Int) < (ll.length : Int) := by omega
            have qs : IntKind.i64.wrap (paysK d (ll.map natsOf) j + payL d m) = paysK d (ll.map natsOf) (j + 1) := by rw [hsu, IntWalk.i64_in _ (by omega)]
            have Qs := Lib.hid qs
            have Hsu := Lib.hid hsu
            clear hl hm0 hdu hle hsu qs hm1
            generalize paysK d (ll.map natsOf) j = SK at *
            go_wp2_with fail
            refine wp_region_noPanic ?_
            refine wp_region_ph [([0, 2, 3, 4, 5], [1, 6, 7]), ([8, 9, 10], [11, 12])] (fun _ => true) (fun w' => Below wp.heap.size wp w') (by kernel_rfl) (by kernel_rfl) (fun _ _ _ _ _ h => h) ?_
            have hb12q : Below wp.heap.size wp wp.drew := (Below.refl _ _).drew
            have HS12q := Lib.hid hb12q
            obtain ⟨w12q, hwe12q⟩ : ∃ W, W = wp.drew := ⟨_, rfl⟩
            rw [← hwe12q] at hb12q HS12q ⊢
            clear hwe12q
            have hw12q := hwp.trans (hb12q.mono hwp.size)
            have G12q := Lib.hid (box_step hb12q Gp.out)
            replace gc := box_cells G12q.out
            replace gf := box_frozen G12q.out
            refine wpPh_cons HS12q.out (fun hne => ?_)
            have n0 := fun x : Meets (fun w' => Below wp.heap.size wp w') => cell_below x.property (box_cells Gp.out 0)
            have n1 := fun x : Meets (fun w' => Below wp.heap.size wp w') => cell_below x.property (box_cells Gp.out 1)
            have n2 := fun x : Meets (fun w' => Below wp.heap.size wp w') => cell_below x.property (box_cells Gp.out 2)
            have n3 := fun x : Meets (fun w' => Below wp.heap.size wp w') => cell_below x.property (box_cells Gp.out 3)
            have n4 := fun x : Meets (fun w' => Below wp.heap.size wp w') => cell_below x.property (box_cells Gp.out 4)
            have n5 := fun x : Meets (fun w' => Below wp.heap.size wp w') => cell_below x.property (box_cells Gp.out 5)
            have n6 := fun x : Meets (fun w' => Below wp.heap.size wp w') => cell_below x.property (box_cells Gp.out 6)
            have n7 := fun x : Meets (fun w' => Below wp.heap.size wp w') => cell_below x.property (box_cells Gp.out 7)
            have n8 := fun x : Meets (fun w' => Below wp.heap.size wp w') => cell_below x.property (box_cells Gp.out 8)
            have n9 := fun x : Meets (fun w' => Below wp.heap.size wp w') => cell_below x.property (box_cells Gp.out 9)
            have n10 := fun x : Meets (fun w' => Below wp.heap.size wp w') => cell_below x.property (cl)
            simp only [pick, pickN, List.filterMap_cons, List.filterMap_nil, List.getElem?_cons_zero, List.getElem?_cons_succ, Option.map_some]
            repeat (change wpQuiet _ _ _ _ (_ :: _) _; go_big_quiet_step (fail))
            refine wpQuiet_nil ?_
            clear n0 n1 n2 n3 n4 n5 n6 n7 n8 n9 n10 hne
            refine wpSeqK_step (fun K hK => ?_)
            go_simp
            refine (DayC_any d _ _ _ (Hda.out.below hw12q) hm).mono ?_
            rintro e w13q ⟨B1x, B2x, e1x, e2x, rfl, hdx, hb13q⟩
            have HS13q := Lib.hid (HS12q.out.trans (hb13q.mono HS12q.out.size))
            have hw13q := hw12q.trans (hb13q.mono hw12q.size)
            have G13q := Lib.hid (box_step hb13q G12q.out)
            replace gc := box_cells G13q.out
            replace gf := box_frozen G13q.out
            have Hx := Lib.hid hb13q
            have hnl1 := (hnl.below HS12q.out).below hb13q
            refine hK.out _ _ (fun _ => HS13q.out) ?_
            clear hK K
            refine wpSeqK_step (fun K hK => ?_)
            go_simp
            refine (copy_any _ (natsI m) _ hnl1 (by rw [natsI_len]; omega)).mono ?_
            rintro e w14q ⟨AC, cC, rfl, hoC, hb14q⟩
            have HS14q := Lib.hid (HS13q.out.trans (hb14q.mono HS13q.out.size))
            have hw14q := hw13q.trans (hb14q.mono hw13q.size)
            have G14q := Lib.hid (box_step hb14q G13q.out)
            replace gc := box_cells G14q.out
            replace gf := box_frozen G14q.out
            have HC := Lib.hid (nums_of_own hoC)
            clear hoC
            have Hy := Lib.hid hb14q
            refine hK.out _ _ (fun _ => HS14q.out) ?_
            clear hK K
            refine wpSeqK_step (fun K hK => ?_)
            go_simp
            refine (PayS_any d _ _ _ m _ (hdx.below Hy.out) hm Hf.out HC.out Hdu.out).mono ?_
            rintro e w15q ⟨rfl, hb15q⟩
            have HS15q := Lib.hid (HS14q.out.trans (hb15q.mono HS14q.out.size))
            have hw15q := hw14q.trans (hb15q.mono hw14q.size)
            have G15q := Lib.hid (box_step hb15q G14q.out)
            replace gc := box_cells G15q.out
            replace gf := box_frozen G15q.out
            rw [if_pos Hle.out, if_pos Hle.out]
            clear HC hdx hnl1 Hx Hy
            refine hK.out _ _ (fun _ => HS15q.out) ?_
            clear hK K
            refine wpSeqK_nil ?_
            refine wpPh_cons HS15q.out (fun hne => ?_)
            simp only [pick, pickN, List.filterMap_cons, List.filterMap_nil, List.getElem?_cons_zero, List.getElem?_cons_succ, Option.map_some]
            repeat (change wpQuiet _ _ _ _ (_ :: _) _; go_big_quiet_step (fail))
            refine wpQuiet_nil ?_
            clear  hne
            refine wpSeqK_step (fun K hK => ?_)
            go_simp
            refine hK.out _ _ (fun _ => HS15q.out) ?_
            clear hK K
            refine wpSeqK_step (fun K hK => ?_)
            go_simp
            refine hK.out _ _ (fun _ => HS15q.out) ?_
            clear hK K
            refine wpSeqK_nil ?_
            refine wpPh_nil ?_
            refine NoPanic.normal ?_
            generalize payL d m = PM at *
            go_wp2
            go_roundw
            case rel => exact ⟨j + 1, by omega, by go_num, by first | rw [Qs.out] | rw [Hsu.out], hbr2.trans (HS15q.out.mono hbr2.size)⟩
            case measure => simp [intOf]; omega
          · obtain rfl : j = ll.length := by omega
            have hkI2 : ¬ (ll.length : Int) < (ll.length : Int) := by omega
            have hlx := Hleast.out _ Hpl.out
            rw [← Hblen.out, HPL.out, ← Hbpay.out, List.length_map] at hlx
            have hso : paysK d (ll.map natsOf) ll.length = sumI ((ll.map natsOf).map (payL d)) := by
              unfold paysK
              rw [List.take_of_length_le (by simp)]
            rw [← hso] at hlx
            generalize paysK d (ll.map natsOf) ll.length = SL at *
            have hge : decide ((k : Int) ≤ (ll.length : Int)) = true := by unfold lexLe at hlx; simp; omega
            have hgeN : decide (k ≤ ll.length) = true := by unfold lexLe at hlx; simp; omega
            by_cases hgt : (k : Int) < (ll.length : Int)
            · clear hlx hso
              go_wp2_with fail
              refine (wakes_any _).mono ?_
              rintro e w12y1 ⟨rfl, hb12y1⟩
              have hw12y1 := hwp.trans (hb12y1.mono hwp.size)
              have G12y1 := Lib.hid (box_step hb12y1 Gp.out)
              replace gc := box_cells G12y1.out
              replace gf := box_frozen G12y1.out
              go_wp2
              go_ret
              exact ⟨rfl, hw12y1⟩
            · have hgt2 : decide ((k : Int) < (ll.length : Int)) = false := by simp; omega
              have hgt2N : decide (k < ll.length) = false := by simp; omega
              have hpy : decide (PP ≤ SL) = true := by unfold lexLe at hlx; simp; omega
              clear hlx hso
              go_wp2_with fail
              refine (wakes_any _).mono ?_
              rintro e w12y2 ⟨rfl, hb12y2⟩
              have hw12y2 := hwp.trans (hb12y2.mono hwp.size)
              have G12y2 := Lib.hid (box_step hb12y2 Gp.out)
              replace gc := box_cells G12y2.out
              replace gf := box_frozen G12y2.out
              go_wp2
              go_ret
              exact ⟨rfl, hw12y2⟩
theorem Fewest_law (d : DDay) (u z v : Value) (ll : List (List Int)) (w : World) (hda : DayAt w u z d) (hv : RowsAt w v ll) :
    Calls Try.prog 9 #[.agg #[.int .i64 d.law.piece, .int .i64 d.law.drive, .int .i64 d.law.spread, .int .i64 d.law.brk, .int .i64 d.law.on, .int .i64 d.law.off, .int .i64 d.law.least, .int .i64 d.law.pieces, u, z], v] w (Gives w (.bool true)) := by
  cases hr : lightB d with
  | false => exact Fewest_dark_a d u z v ll w hda hv hr
  | true =>
    cases hs : shortB ll with
    | false => exact Fewest_dark_b d u z v ll w hda hv hr hs
    | true =>
      cases hc : (bestV d).can with
      | false => exact Fewest_none d u z v ll w hda hv hr hs hc
      | true => exact Fewest_some d u z v ll w hda hv hr hs hc
end Go.Proofs.Ytllobkhdeahgpaa
