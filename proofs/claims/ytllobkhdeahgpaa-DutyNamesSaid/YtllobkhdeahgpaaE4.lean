import Derived.Test.YtllobkhdeahgpaaE3
set_option linter.unusedVariables false
set_option linter.unusedSimpArgs false
namespace Go.Proofs.Ytllobkhdeahgpaa
open Go Go.Proofs Go.RowKit

/-! ### ProvePlan -/
def proveT (d : DDay) : Nat → List (List Int) → Bool
  | left, [] => left == 0
  | left, l :: t => dutyB (segN d.blocks) l && ((maskL (natsOf l) &&& left == maskL (natsOf l)) && (legalL d (natsOf l) && proveT d (left ^^^ maskL (natsOf l)) t))
def proveB (d : DDay) (ll : List (List Int)) : Bool := faultD d == 0 && proveT d (fullM (segN d.blocks)) ll
theorem parts_zero {legal : Nat → Bool} {l : Nat} : Parts legal l [] ↔ l = 0 := by
  constructor
  · intro h
    apply Nat.eq_of_testBit_eq
    intro i
    have := h.once i
    simp only [cnt, List.countP_nil] at this
    cases hb : l.testBit i with
    | false => simp
    | true => rw [hb] at this; simp at this
  · rintro rfl
    exact Parts.nil
theorem proveT_parts {d : DDay} : ∀ (ll : List (List Int)) (left : Nat), proveT d left ll = true ↔ (∀ l ∈ ll, DutyI (segN d.blocks) l) ∧ Parts (legalX d) left (ll.map fun l => maskL (natsOf l))
  | [], left => by simp [proveT, parts_zero]
  | l :: t, left => by
    simp only [proveT, Bool.and_eq_true, beq_iff_eq, List.map_cons]
    rw [proveT_parts t, dutyB_iff]
    constructor
    · rintro ⟨h1, h2, h3, h4, h5⟩
      obtain ⟨m1, m2, m3, m4⟩ := duty_mask h1
      refine ⟨fun x hx => ?_, Parts.cons (by rw [m3]; exact h3) m2 h2 h5⟩
      rcases List.mem_cons.1 hx with rfl | hx
      · exact h1
      · exact h4 x hx
    · rintro ⟨h1, h2⟩
      have hl := h1 l (by simp)
      obtain ⟨m1, m2, m3, m4⟩ := duty_mask hl
      refine ⟨hl, h2.sub (by simp), ?_, fun x hx => h1 x (by simp [hx]), h2.uncons⟩
      rw [← m3]
      exact (h2.legal _ (by simp)).1
theorem prove_plan {d : DDay} {ll : List (List Int)} : proveT d (fullM (segN d.blocks)) ll = true ↔ (∀ l ∈ ll, l = natsI (natsOf l)) ∧ IsPlan d (ll.map natsOf) := by
  rw [proveT_parts]
  constructor
  · rintro ⟨h1, h2⟩
    refine ⟨fun l hl => (dutyI_iff.1 (h1 l hl)).1, ?_⟩
    have h3 := (parts_plan h2).1
    have e : (ll.map fun l => maskL (natsOf l)).map (bitsL (segN d.blocks)) = ll.map natsOf := by
      rw [List.map_map]
      refine List.map_congr_left fun l hl => ?_
      have hd := (dutyI_iff.1 (h1 l hl)).2
      exact bitsL_mask hd.rise hd.lt
    rw [e] at h3
    exact h3
  · rintro ⟨h1, h2⟩
    refine ⟨fun l hl => dutyI_iff.2 ⟨h1 l hl, h2.duty _ (List.mem_map_of_mem hl)⟩, ?_⟩
    have := plan_parts h2
    rw [List.map_map] at this
    exact this
theorem xor_lt {a b n : Nat} (ha : a < 2 ^ n) (hb : b < 2 ^ n) : a ^^^ b < 2 ^ n := Nat.xor_lt_two_pow ha hb
set_option maxRecDepth 100000 in
set_option maxHeartbeats 3200000 in
theorem ProvePlan_any (d : DDay) (u z v : Value) (ll : List (List Int)) (w : World) (hda : DayAt w u z d) (hm : Mild d) (hv : RowsAt w v ll) (hl : ∀ (j : Nat) (l : List Int), ll[j]? = some l → l.length ≤ 1000) :
    Calls Try.prog 29 #[.agg #[.int .i64 d.law.piece, .int .i64 d.law.drive, .int .i64 d.law.spread, .int .i64 d.law.brk, .int .i64 d.law.on, .int .i64 d.law.off, .int .i64 d.law.least, .int .i64 d.law.pieces, u, z], v] w (Gives w (.bool (proveB d ll))) := by
  obtain ⟨A1, c1, rfl, _, _⟩ := hda.blocks.form
  obtain ⟨A2, c2, rfl, _, _⟩ := hda.walk.form
  obtain ⟨A3, c3, rfl, hc3, hm3⟩ := hv.form
  have hb0 : Below w.heap.size w (w.alloc (.cells #[.int .i64 d.law.piece, .int .i64 d.law.drive, .int .i64 d.law.spread, .int .i64 d.law.brk, .int .i64 d.law.on, .int .i64 d.law.off, .int .i64 d.law.least, .int .i64 d.law.pieces, .slice A1 d.blocks.length c1, .slice A2 d.walk.length c2] 39)) := (Below.refl _ _).alloc (Nat.le_refl _) _
  have G0 := Lib.hid (heap_alloc_new w (.cells #[.int .i64 d.law.piece, .int .i64 d.law.drive, .int .i64 d.law.spread, .int .i64 d.law.brk, .int .i64 d.law.on, .int .i64 d.law.off, .int .i64 d.law.least, .int .i64 d.law.pieces, .slice A1 d.blocks.length c1, .slice A2 d.walk.length c2] 39 (0, 0)))
  have Hc := CheckDay_any d _ _ _ (hda.below hb0) hm
  have Hda := Lib.hid hda
  have Hv := Lib.hid hv
  have Hll := Lib.hid hl
  clear hda hv hl
  cases hf : (faultD d != 0) with
  | true =>
    have Hp := Lib.hid (show proveB d ll = false by
      unfold proveB
      have : (faultD d == 0) = false := by simpa using hf
      rw [this]
      rfl)
    replace Hc := Lib.hid Hc
    generalize faultD d = F at *
    go_enter Try.func29, Try.ntmps29
    go_wp2_with (go_at_call 34; refine Hc.out.mono ?_; rintro e w1 ⟨rfl, hb1⟩)
    go_ret
    exact gives_bool Hp.out.symm (hb0.trans (hb1.mono hb0.size))
  | false =>
    have hd := fault_ok hf
    have h0 : faultD d = 0 := by simpa using hf
    rw [h0] at Hc
    have hsn := hd.segs
    have Hp := Lib.hid (show proveB d ll = proveT d (fullM (segN d.blocks)) ll by unfold proveB; rw [h0]; rfl)
    have Hd := Lib.hid hd
    have hN : 2 ^ segN d.blocks ≤ 1024 := Nat.pow_le_pow_right (n := 2) (by omega) (by omega : segN d.blocks ≤ 10)
    have hN1 := Nat.two_pow_pos (segN d.blocks)
    have hfull : fullM (segN d.blocks) + 1 = 2 ^ segN d.blocks := by unfold fullM; omega
    replace Hc := Lib.hid Hc
    clear hf h0 hd
    go_enter Try.func29, Try.ntmps29
    have gc := box_cells G0.out
    have gf := box_frozen G0.out
    go_wp2_with fail
    refine Hc.out.mono ?_
    rintro e w1 ⟨rfl, hb1⟩
    have hw1 := hb0.trans (hb1.mono hb0.size)
    have G1 := Lib.hid (box_step hb1 G0.out)
    replace gc := box_cells G1.out
    replace gf := box_frozen G1.out
    clear Hc
    go_wp2_with fail
    refine (plan_any d _ _ _ (Hda.out.below hw1) hm).mono ?_
    rintro e w2 ⟨P, rfl, hp, hP, hb2⟩
    have hw2 := hw1.trans (hb2.mono hw1.size)
    have G2 := Lib.hid (box_step hb2 G1.out)
    replace gc := box_cells G2.out
    replace gf := box_frozen G2.out
    go_wp2_with fail
    refine (every_same P d _ hp (by omega)).mono ?_
    rintro e w2' ⟨rfl, rfl⟩
    clear hp
    go_wp2
    go_loopw [5, 19] (fun x i wr => ∃ (k L : Nat), k ≤ ll.length ∧ i = .int .i64 k ∧ x = .int .u16 (L : Int) ∧ L < 2 ^ segN d.blocks ∧ Below w2.heap.size w2 wr ∧ Hid (proveT d (fullM (segN d.blocks)) ll = proveT d L (ll.drop k))) (fun x i wr => ll.length - (intOf i).toNat)
    case atStart => exact ⟨0, _, by omega, rfl, rfl, by omega, Below.refl _ _, by rw [List.drop_zero]; rfl⟩
    case round =>
      obtain ⟨k, L, hk, rfl, rfl, hL, hb, hpr⟩ := hrel
      obtain ⟨wo, rfl⟩ : ∃ wo : World, wo = wr := ⟨_, rfl⟩
      have hwo := hw2.trans (hb.mono hw2.size)
      have Go := Lib.hid (box_step hb G2.out)
      replace gc := box_cells Go.out
      replace gf := box_frozen Go.out
      by_cases hlt : k < ll.length
      · obtain ⟨b, o, l, y, rfl, hl, cl, hnl, _⟩ := (Hv.out.below hwo).at_ hlt
        obtain ⟨A4, c4, rfl, _, _⟩ := hnl.form
        have hdrop : ll.drop k = l :: ll.drop (k + 1) := by
          rw [List.drop_eq_getElem_cons hlt]
          congr 1
          have := List.getElem?_eq_getElem hlt
          rw [hl] at this
          exact (Option.some.inj this).symm
        have hst : proveT d L (ll.drop k) = (dutyB (segN d.blocks) l && ((maskL (natsOf l) &&& L == maskL (natsOf l)) && (legalL d (natsOf l) && proveT d (L ^^^ maskL (natsOf l)) (ll.drop (k + 1))))) := by rw [hdrop]; rfl
        have Hst := Lib.hid hst
        have Hask := Lib.hid (asked_any d _ _ _ l wo (Hda.out.below hwo) Hd.out hnl (Hll.out k l hl))
        have hkI : (k : Int) < (ll.length : Int) := by omega
        clear hl hdrop hst
        cases hdu : dutyB (segN d.blocks) l with
        | false =>
          have hno : ¬ DutyI (segN d.blocks) l := fun h => by rw [dutyB_iff.2 h] at hdu; cases hdu
          have Hno := Lib.hid hno
          have Hfin := Lib.hid (Hp.out.trans (hpr.out.trans (Hst.out.trans (by rw [hdu, Bool.false_and]))))
          clear hno hdu
          go_wp2_with (go_at_call 45; refine Hask.out.mono ?_; rintro e w3 ⟨_, hq⟩; obtain ⟨rfl, hb3⟩ := hq Hno.out; clear hq)
          go_ret
          exact gives_bool Hfin.out.symm (hwo.trans (hb3.mono hwo.size))
        | true =>
          have hyes := dutyB_iff.1 hdu
          obtain ⟨m1, m2, m3, m4⟩ := duty_mask hyes
          have Hyes := Lib.hid hyes
          have hst2 := Hst.out
          rw [hdu, Bool.true_and] at hst2
          have Hst2 := Lib.hid hst2
          have Hm3 := Lib.hid m3
          clear hyes hdu m3 m4 hst2 Hst
          obtain ⟨X, hX⟩ : ∃ X, maskL (natsOf l) = X := ⟨_, rfl⟩
          obtain ⟨LG, hLG⟩ : ∃ LG, legalL d (natsOf l) = LG := ⟨_, rfl⟩
          rw [hX, hLG] at Hst2 Hm3
          rw [hX] at m1 m2
          have hand := bits_and_u16 X L (by omega) (by omega)
          have hxor := bits_xor_u16 L X (by omega) (by omega)
          have hxl := xor_lt hL m1
          have HX := Lib.hid hX
          clear hX hLG
          by_cases hsub : X &&& L = X
          · have hne : (((X &&& L : Nat) : Int) != (X : Int)) = false := by simp [hsub]
            have Hsub := Lib.hid hsub
            clear hsub
            cases LG with
            | false =>
              have Hfin := Lib.hid (show proveB d ll = false from Hp.out.trans (hpr.out.trans (Hst2.out.trans (by simp))))
              generalize X &&& L = XL at *
              go_wp2_with (first
                | (go_at_call 45; refine Hask.out.mono ?_; rintro e w3 ⟨hq, _⟩; obtain ⟨P3, rfl, hp3, hb3⟩ := hq Hyes.out; rw [HX.out]; have Hp3 := Lib.hid hp3; clear hq hp3)
                | (go_at_call 44; refine (Gives.to Hm3.out (legal_any P3 X d _ Hd.out Hp3.out m1 m2)).mono ?_; rintro e w4 ⟨rfl, hb4⟩))
              go_ret
              have h3 := hwo.trans (hb3.mono hwo.size)
              exact gives_bool Hfin.out.symm (h3.trans (hb4.mono h3.size))
            | true =>
              have Hnx := Lib.hid (show Hid (proveT d (fullM (segN d.blocks)) ll = proveT d (L ^^^ X) (ll.drop (k + 1))) from hpr.out.trans (Hst2.out.trans (by rw [Hsub.out]; simp)))
              generalize X &&& L = XL at *
              generalize L ^^^ X = LX at *
              go_wp2_with (first
                | (go_at_call 45; refine Hask.out.mono ?_; rintro e w3 ⟨hq, _⟩; obtain ⟨P3, rfl, hp3, hb3⟩ := hq Hyes.out; rw [HX.out]; have Hp3 := Lib.hid hp3; clear hq hp3)
                | (go_at_call 44; refine (Gives.to Hm3.out (legal_any P3 X d _ Hd.out Hp3.out m1 m2)).mono ?_; rintro e w4 ⟨rfl, hb4⟩))
              go_roundw
              case rel =>
                have h3 := hb.trans (hb3.mono hb.size)
                exact ⟨k + 1, LX, by omega, by go_num, rfl, hxl, h3.trans (hb4.mono h3.size), Hnx.out⟩
              case measure => simp [intOf]; omega
          · have hne : (((X &&& L : Nat) : Int) != (X : Int)) = true := by simp; omega
            have Hfin := Lib.hid (Hp.out.trans (hpr.out.trans (Hst2.out.trans (by rw [show (X &&& L == X) = false by simpa using hsub, Bool.false_and]))))
            clear hsub
            generalize X &&& L = XL at *
            go_wp2_with (go_at_call 45; refine Hask.out.mono ?_; rintro e w3 ⟨hq, _⟩; obtain ⟨P3, rfl, hp3, hb3⟩ := hq Hyes.out; rw [HX.out]; clear hq)
            go_ret
            exact gives_bool Hfin.out.symm (hwo.trans (hb3.mono hwo.size))
      · obtain rfl : k = ll.length := by omega
        have Hfin := Lib.hid (show proveB d ll = ((L : Int) == 0) by
          rw [Hp.out, hpr.out, List.drop_length, proveT, Bool.eq_iff_iff]
          simp)
        have hkI : ¬ (ll.length : Int) < (ll.length : Int) := by omega
        go_wp2
        go_ret
        exact gives_bool Hfin.out.symm hwo
end Go.Proofs.Ytllobkhdeahgpaa
