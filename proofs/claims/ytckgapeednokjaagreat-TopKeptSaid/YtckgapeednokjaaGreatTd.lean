import Derived.Deep.Cut
import Derived.Deep.CutRange
import Derived.Test.YtckgapeednokjaaGreatK6
import Derived.Test.YtckgapeednokjaaGreatTc
set_option linter.unusedVariables false
set_option linter.unusedSimpArgs false
namespace Go.Proofs.YtckgapeednokjaaGreat
open Go Go.Proofs Go.RowKit

/-! ### run: a timetable is valid -/
theorem two_belowT (w : World) (a b : Obj) : Below w.heap.size w ((w.alloc a).alloc b) := ((Below.refl _ _).alloc (Nat.le_refl _) _).alloc (by simp) _
theorem box_stepR {w w' : World} {b : Nat} {o : Obj} (hb : Below w.heap.size w w') (h : w.heap[b]? = some o) : w'.heap[b]? = some o := (hb.block b (Array.getElem?_eq_some_iff.1 h).1).trans h
/-- A timetable in memory. -/
structure TabAt (w : World) (u z : Value) (t : Tab) : Prop where
  rows : RowsAt w u t.empty
  trips : TripsAt w z t.trips
theorem TabAt.below {w w' : World} {u z : Value} {t : Tab} (h : TabAt w u z t) (hb : Below w.heap.size w w') : TabAt w' u z t := ⟨h.rows.below hb, h.trips.below hb⟩
theorem inB_true {n lo hi : Int} (h : lo ≤ n ∧ n ≤ hi) : inB n lo hi = true := inB_iff.2 h
theorem withinR_same (n lo hi : Int) (w : World) : Calls Tryz.prog 83 #[.int .i64 n, .int .i64 lo, .int .i64 hi] w (Same w (.bool (inB n lo hi))) := by
  by_cases h1 : lo ≤ n
  · by_cases h2 : n ≤ hi
    · have e : inB n lo hi = true := by simp [inB, h1, h2]
      rw [e]; clear e
      go_enter Tryz.func83, Tryz.ntmps83
      go_wp2
      go_ret
      exact ⟨rfl, rfl⟩
    · have e : inB n lo hi = false := by simp [inB, h2]
      rw [e]; clear e
      go_enter Tryz.func83, Tryz.ntmps83
      go_wp2
      go_ret
      exact ⟨rfl, rfl⟩
  · have e : inB n lo hi = false := by simp [inB, h1]
    rw [e]; clear e
    go_enter Tryz.func83, Tryz.ntmps83
    go_wp2
    go_ret
    exact ⟨rfl, rfl⟩
theorem InR_same (n lo hi : Int) (w : World) : Calls Tryz.prog 44 #[.int .i64 n, .int .i64 lo, .int .i64 hi] w (Same w (.bool (inB n lo hi))) := by
  by_cases h1 : lo ≤ n
  · by_cases h2 : n ≤ hi
    · have e : inB n lo hi = true := by simp [inB, h1, h2]
      rw [e]; clear e
      go_enter Tryz.func44, Tryz.ntmps44
      go_wp2
      go_ret
      exact ⟨rfl, rfl⟩
    · have e : inB n lo hi = false := by simp [inB, h2]
      rw [e]; clear e
      go_enter Tryz.func44, Tryz.ntmps44
      go_wp2
      go_ret
      exact ⟨rfl, rfl⟩
  · have e : inB n lo hi = false := by simp [inB, h1]
    rw [e]; clear e
    go_enter Tryz.func44, Tryz.ntmps44
    go_wp2
    go_ret
    exact ⟨rfl, rfl⟩
theorem minutesR_same (n : Int) (w : World) : Calls Tryz.prog 82 #[.int .i64 n] w (Same w (.bool (inB n 0 600))) := by
  go_enter Tryz.func82, Tryz.ntmps82
  go_wp2_with (go_at_call 83; refine (withinR_same _ _ _ _).mono ?_; rintro e w1 ⟨rfl, rfl⟩)
  go_ret
  exact ⟨rfl, rfl⟩
theorem minutesR_val (w : World) (x : Int) : CallsVal Tryz.prog (.func (.func 82) #[] #[]) #[.int .i64 x] w (Gives w (.bool (inB x 0 600))) :=
  ⟨82, #[.int .i64 x], by kernel_rfl, Same.gives (minutesR_same x w)⟩
theorem placeR_ok (t : Tab) (u z : Value) (n : Int) (w : World) (hP : 1 ≤ t.places ∧ t.places ≤ 6) (hn : 0 ≤ n ∧ n ≤ t.places - 1) :
    Calls Tryz.prog 138 #[.agg #[.int .i64 t.places, .int .i64 t.lay, u, z], .int .i64 n] w (Gives w (.bool true)) := by
  have hb0 : Below w.heap.size w (w.alloc (.cells #[.int .i64 t.places, .int .i64 t.lay, u, z] 58)) := (Below.refl _ _).alloc (Nat.le_refl _) _
  have Hi := Lib.hid (inB_true hn)
  obtain ⟨h1, h2⟩ := hP
  clear hn
  go_enter Tryz.func138, Tryz.ntmps138
  go_wp2_with (go_at_call 83; refine (Same.to Hi.out (withinR_same _ _ _ _)).mono ?_; rintro e w1 ⟨rfl, rfl⟩)
  go_ret
  exact ⟨rfl, hb0⟩
set_option maxRecDepth 100000 in
theorem tripR_ok (t : Tab) (u z : Value) (x : Trip) (w : World) (hP : 1 ≤ t.places ∧ t.places ≤ 6) (hx : TripOk t.places x) :
    Calls Tryz.prog 85 #[.agg #[.int .i64 t.places, .int .i64 t.lay, u, z], .agg #[.int .i64 x.fr, .int .i64 x.to, .int .i64 x.start, .int .i64 x.least, .int .i64 x.most, .int .i64 x.kind]] w (Gives w (.bool true)) := by
  have hw0 : Below w.heap.size w ((w.alloc (.cells #[.int .i64 t.places, .int .i64 t.lay, u, z] 58)).alloc (.cells #[.int .i64 x.fr, .int .i64 x.to, .int .i64 x.start, .int .i64 x.least, .int .i64 x.most, .int .i64 x.kind] 112)) := two_belowT w _ _
  have G0 := Lib.hid ((Below.heap_alloc (w.alloc (.cells #[.int .i64 t.places, .int .i64 t.lay, u, z] 58)) (.cells #[.int .i64 x.fr, .int .i64 x.to, .int .i64 x.start, .int .i64 x.least, .int .i64 x.most, .int .i64 x.kind] 112) w.heap.size (by simp)).trans (heap_alloc_new w (.cells #[.int .i64 t.places, .int .i64 t.lay, u, z] 58)))
  have J0 := Lib.hid (heap_alloc2_new w (.cells #[.int .i64 t.places, .int .i64 t.lay, u, z] 58) (.cells #[.int .i64 x.fr, .int .i64 x.to, .int .i64 x.start, .int .i64 x.least, .int .i64 x.most, .int .i64 x.kind] 112))
  have Hp := Lib.hid hP
  have Hx := Lib.hid hx
  have Hs := Lib.hid (inB_true hx.start)
  have Hl := Lib.hid (inB_true hx.least)
  have Hm := Lib.hid (inB_true (show 0 ≤ x.most ∧ x.most ≤ 600 from ⟨by have := hx.least; omega, hx.most⟩))
  have Hk := Lib.hid (inB_true hx.kind)
  clear hP hx
  go_enter Tryz.func85, Tryz.ntmps85
  have gc := box_cells G0.out
  have gf := box_frozen G0.out
  have jc := box_cells J0.out
  have jf := box_frozen J0.out
  go_wp2_with fail
  refine (placeR_ok t u z _ _ Hp.out Hx.out.fr).mono ?_
  rintro e w1 ⟨rfl, hb1⟩
  have hw1 := hw0.trans (hb1.mono hw0.size)
  have G1 := Lib.hid (box_stepR hb1 G0.out)
  replace gc := box_cells G1.out
  replace gf := box_frozen G1.out
  have J1 := Lib.hid (box_stepR hb1 J0.out)
  replace jc := box_cells J1.out
  replace jf := box_frozen J1.out
  go_wp2_with fail
  refine (placeR_ok t u z _ _ Hp.out Hx.out.to).mono ?_
  rintro e w2 ⟨rfl, hb2⟩
  have hw2 := hw1.trans (hb2.mono hw1.size)
  have G2 := Lib.hid (box_stepR hb2 G1.out)
  replace gc := box_cells G2.out
  replace gf := box_frozen G2.out
  have J2 := Lib.hid (box_stepR hb2 J1.out)
  replace jc := box_cells J2.out
  replace jf := box_frozen J2.out
  go_wp2_with fail
  refine (Same.to Hs.out (withinR_same _ _ _ _)).mono ?_
  rintro e wx ⟨rfl, rfl⟩
  go_wp2_with fail
  refine (Same.to Hl.out (withinR_same _ _ _ _)).mono ?_
  rintro e wx ⟨rfl, rfl⟩
  go_wp2_with fail
  refine (Same.to Hm.out (minutesR_same _ _)).mono ?_
  rintro e wx ⟨rfl, rfl⟩
  go_wp2_with fail
  refine (Same.to Hk.out (withinR_same _ _ _ _)).mono ?_
  rintro e wx ⟨rfl, rfl⟩
  go_wp2
  go_ret
  exact ⟨rfl, hw2⟩
theorem tripR_val (t : Tab) (u z : Value) (x : Trip) (w : World) (hP : 1 ≤ t.places ∧ t.places ≤ 6) (hx : TripOk t.places x) :
    CallsVal Tryz.prog (.func (.func 85) #[.agg #[.int .i64 t.places, .int .i64 t.lay, u, z]] #[]) #[.agg #[.int .i64 x.fr, .int .i64 x.to, .int .i64 x.start, .int .i64 x.least, .int .i64 x.most, .int .i64 x.kind]] w (Gives w (.bool true)) :=
  ⟨85, #[.agg #[.int .i64 t.places, .int .i64 t.lay, u, z], .agg #[.int .i64 x.fr, .int .i64 x.to, .int .i64 x.start, .int .i64 x.least, .int .i64 x.most, .int .i64 x.kind]], by kernel_rfl, tripR_ok t u z x w hP hx⟩
theorem check1_ok (B : Nat) (n : Int) (v : Value) (l : List Int) (w : World) (hB : w.cell? ⟨B, 0, none⟩ = some (.int .i64 n)) (hv : NumsAt .i64 w v l) (hl : (l.length : Int) = n) (hx : ∀ x ∈ l, 0 ≤ x ∧ x ≤ 600) :
    CallsVal Tryz.prog (.func (.func 80) #[] #[.pointer (some ⟨B, 0, none⟩)]) #[v] w (Gives w (.bool true)) := by
  refine ⟨80, #[v, .pointer (some ⟨B, 0, none⟩)], by kernel_rfl, ?_⟩
  obtain ⟨A, c, rfl, hc, hm⟩ := hv.form
  have ha : (l.all fun x => inB x 0 600) = true := List.all_eq_true.2 fun x h => inB_iff.2 (hx x h)
  have Ha := Lib.hid (Gives.to ha (all_intsR _ _ _ _ (.slice A l.length c) l w hv fun k x w' _ _ => minutesR_val w' x))
  clear hv hx ha
  subst hl
  go_enter Tryz.func80, Tryz.ntmps80
  go_wp2_with (go_at_call 81; refine Ha.out.mono ?_; rintro e w1 ⟨rfl, hb1⟩)
  go_ret
  exact ⟨rfl, hb1⟩
set_option maxRecDepth 100000 in
set_option maxHeartbeats 1600000 in
theorem checkR_ok (t : Tab) (u z : Value) (w : World) (hT : TabAt w u z t) (ht : TabOk t) :
    Calls Tryz.prog 46 #[.agg #[.int .i64 t.places, .int .i64 t.lay, u, z]] w (Gives w (.int .i64 0)) := by
  obtain ⟨A1, c1, rfl, _, _⟩ := hT.rows.form
  obtain ⟨A2, c2, rfl, _, _⟩ := hT.trips.form
  have hw0 : Below w.heap.size w (w.alloc (.cells #[.int .i64 t.places, .int .i64 t.lay, .slice A1 t.empty.length c1, .slice A2 t.trips.length c2] 58)) := (Below.refl _ _).alloc (Nat.le_refl _) _
  have G0 := Lib.hid (heap_alloc_new w (.cells #[.int .i64 t.places, .int .i64 t.lay, .slice A1 t.empty.length c1, .slice A2 t.trips.length c2] 58 (0, 0)))
  have HT := Lib.hid hT
  have Ht := Lib.hid ht
  have h12 := ht.trips
  have Hpl := Lib.hid (inB_true ht.places)
  have Hla := Lib.hid (inB_true ht.lay)
  have hrw := ht.rows
  have hP := ht.places
  obtain ⟨P, hPe⟩ : ∃ P : Nat, t.empty.length = P := ⟨_, rfl⟩
  have hpl : t.places = (P : Int) := by omega
  have HPe := Lib.hid hPe
  have Hpe := Lib.hid hpl
  have hP6 : P ≤ 6 := by omega
  have HA := Lib.hid (fun (W : World) (h : Below w.heap.size w W) (B : Nat) (hB : W.cell? ⟨B, 0, none⟩ = some (.int .i64 (P : Int))) => Gives.to (show (t.empty.all fun _ => true) = true by simp) (all_rows (.func 80) #[] #[.pointer (some ⟨B, 0, none⟩)] (fun _ => true) (.slice A1 t.empty.length c1) t.empty W (hT.rows.below h)
    fun k x u w' hx hn hb => check1_ok B P u x w' (cell_below hb hB) hn (by rw [(ht.row k x hx).1, hpl]) (ht.row k x hx).2.2))
  have HB := Lib.hid (fun (W : World) (h : Below w.heap.size w W) => Gives.to (show (t.trips.all fun _ => true) = true by simp) (all_trips (.func 85) #[.agg #[.int .i64 t.places, .int .i64 t.lay, .slice A1 t.empty.length c1, .slice A2 t.trips.length c2]] #[] (fun _ => true) (.slice A2 t.trips.length c2) t.trips W (hT.trips.below h)
    fun k x w' hx hb => tripR_val t _ _ x w' ht.places (ht.trip x (List.mem_of_getElem? hx))))
  rw [hPe] at G0 hw0 HA HB ⊢
  obtain ⟨N, hN⟩ : ∃ N : Nat, t.trips.length = N := ⟨_, rfl⟩
  have HN := Lib.hid hN
  rw [hN] at h12 G0 hw0 HB ⊢
  rw [hpl] at Hpl G0 hw0 HB ⊢
  clear hrw hP hPe hpl hN hT ht
  go_enter Tryz.func46, Tryz.ntmps46
  have gc := box_cells G0.out
  have gf := box_frozen G0.out
  go_wp2_with (first
    | (go_at_call 83; refine (Same.to Hpl.out (withinR_same _ _ _ _)).mono ?_; rintro e w1 ⟨rfl, rfl⟩)
    | (go_at_call 82; refine (Same.to Hla.out (minutesR_same _ _)).mono ?_; rintro e w1 ⟨rfl, rfl⟩))
  refine (HA.out _ hw0 w.heap.size (gc 0)).mono ?_
  rintro e w1 ⟨rfl, hb1⟩
  have hw1 := hw0.trans (hb1.mono hw0.size)
  have G1 := Lib.hid (box_stepR hb1 G0.out)
  replace gc := box_cells G1.out
  replace gf := box_frozen G1.out
  go_wp2
  go_loop [40] (fun s => ∃ k : Nat, k ≤ P ∧ s = .int .i64 (k : Int)) (fun s => P - (intOf s).toNat)
  case atStart => exact ⟨0, by omega, rfl⟩
  case round =>
    obtain ⟨k, hk, rfl⟩ := hrel
    by_cases hlt : k < P
    · obtain ⟨b, o, l, u, eA, hl, hu, hn, _⟩ := (HT.out.rows.below hw1).at_ (k := k) (by rw [HPe.out]; exact hlt)
      subst eA
      obtain ⟨h1, h2, _⟩ := Ht.out.row k l hl
      obtain ⟨A3, c3, rfl, _, _⟩ := hn.form
      have hlP : l.length = P := by have := Hpe.out; omega
      obtain ⟨b2, o2, x, eA, hx, hcx, _⟩ := hn.at_ (k := k) (by rw [hlP]; exact hlt)
      subst eA
      rw [h2] at hx
      obtain rfl := (Option.some.inj hx)
      rw [hlP] at hu
      clear hn hl h1 h2 hlP hx
      go_wp2
      go_round
      case rel => exact ⟨k + 1, by omega, by go_num⟩
      case measure => simp [intOf]; omega
    · obtain rfl : k = P := by omega
      go_wp2_with (go_at_call 86; refine (HB.out _ hw1).mono ?_; rintro e w2 ⟨rfl, hb2⟩)
      go_ret
      exact ⟨rfl, hw1.trans (hb2.mono hw1.size)⟩
end Go.Proofs.YtckgapeednokjaaGreat
