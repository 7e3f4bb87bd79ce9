import Derived.Test.YtckgapeednokjaaGreatUx
set_option linter.unusedVariables false
set_option linter.unusedSimpArgs false
namespace Go.Proofs.YtckgapeednokjaaGreat
open Go Go.Proofs Go.RowKit

/-! ### fare.Missing where nothing is told -/
theorem ten_cases {c : Nat} {p : Nat → Prop} (hc : c < 10) (h0 : p 0) (h1 : p 1) (h2 : p 2) (h3 : p 3) (h4 : p 4) (h5 : p 5) (h6 : p 6) (h7 : p 7) (h8 : p 8) (h9 : p 9) : p c := by
  match c, hc with
  | 0, _ => exact h0
  | 1, _ => exact h1
  | 2, _ => exact h2
  | 3, _ => exact h3
  | 4, _ => exact h4
  | 5, _ => exact h5
  | 6, _ => exact h6
  | 7, _ => exact h7
  | 8, _ => exact h8
  | 9, _ => exact h9
theorem toldN_cell {w : World} {B : Nat} {k : Value} {T : TypeId} (h : w.heap[B]? = some (.cells #[.slice none 0 0, .slice none 0 0, .slice none 0 0, .slice none 0 0, .slice none 0 0, .slice none 0 0, .slice none 0 0, .slice none 0 0, .slice none 0 0, .slice none 0 0, k] T (0, 0))) {c : Nat} (hc : c < 10) : w.cell? ⟨B, c, none⟩ = some (.slice none 0 0) := by
  have hq := box_cells h
  exact ten_cases (p := fun c => w.cell? ⟨B, c, none⟩ = some (.slice none 0 0)) hc (hq 0) (hq 1) (hq 2) (hq 3) (hq 4) (hq 5) (hq 6) (hq 7) (hq 8) (hq 9)
theorem toldN_set {w : World} {B : Nat} {k : Value} {T : TypeId} (h : w.heap[B]? = some (.cells #[.slice none 0 0, .slice none 0 0, .slice none 0 0, .slice none 0 0, .slice none 0 0, .slice none 0 0, .slice none 0 0, .slice none 0 0, .slice none 0 0, .slice none 0 0, k] T (0, 0))) {c : Nat} (hc : c < 10) : (w.setCell ⟨B, c, none⟩ (.slice none 0 0)).heap[B]? = some (.cells #[.slice none 0 0, .slice none 0 0, .slice none 0 0, .slice none 0 0, .slice none 0 0, .slice none 0 0, .slice none 0 0, .slice none 0 0, .slice none 0 0, .slice none 0 0, k] T (0, 0)) := by
  rw [blk_set h]
  exact ten_cases (p := fun c => some (Obj.cells (#[.slice none 0 0, .slice none 0 0, .slice none 0 0, .slice none 0 0, .slice none 0 0, .slice none 0 0, .slice none 0 0, .slice none 0 0, .slice none 0 0, .slice none 0 0, k].setIfInBounds c (.slice none 0 0)) T (0, 0)) = some (Obj.cells #[.slice none 0 0, .slice none 0 0, .slice none 0 0, .slice none 0 0, .slice none 0 0, .slice none 0 0, .slice none 0 0, .slice none 0 0, .slice none 0 0, .slice none 0 0, k] T (0, 0))) hc rfl rfl rfl rfl rfl rfl rfl rfl rfl rfl
theorem num_row : (222 : TypeId) < Tryz.prog.types.size := of_decide_eq_true (by kernel_rfl)
theorem num_wide : (match Tryz.prog.underlying 222 with | some (.array _ _) | some (.struct _) => true | _ => false) = true := by kernel_rfl
set_option maxRecDepth 100000 in
theorem num_law : Maps.Keyed Tryz.prog 222 := Maps.Keyed.of_law (deep_law_laid laidOut (m := 2) (by omega) num_row (by kernel_rfl) num_wide)
theorem num_key00 : ∃ l, keyOf Tryz.prog 222 (.agg #[.int .i64 0, .int .i64 0]) = some l := Option.isSome_iff_exists.1 (by kernel_rfl)
theorem tap_zero (w : World) : (zeroValue 217).run Tryz.prog w = .ok (.agg #[.int .i64 0, .int .i64 0, .int .i64 0, .int .i64 0, .int .i64 0, .int .i64 0, .int .i64 0]) w := by kernel_rfl
/-- read hands back nothing told, and an empty map. -/
def GivesTold (w : World) (e : Ending) (w' : World) : Prop := ∃ K : Nat, e = .returned (.tuple #[.agg #[.slice none 0 0, .slice none 0 0, .slice none 0 0, .slice none 0 0, .slice none 0 0, .slice none 0 0, .slice none 0 0, .slice none 0 0, .slice none 0 0, .slice none 0 0, .map (some K)], .int .i64 0]) ∧ MapN 222 w' K 0 (fun _ => none) ∧ Below w.heap.size w w'
set_option maxRecDepth 100000 in
set_option maxHeartbeats 6400000 in
theorem read_nil (a b c u : Value) (x y z : Int) (cs : List Int) (w : World) (ha : NumsAt .i64 w a [x]) (hb : NumsAt .i64 w b [y]) (hc : NumsAt .i64 w c [z]) (hx : inB x 0 10000 = true) (hy : inB y 0 10000 = true) (hz : inB z 0 10000 = true) (hu : NumsAt .i64 w u cs) (hl : cs.length = 4) (hcs : (cs.all fun x => inB x 0 50) = true) :
    Calls Tryz.prog 68 #[.agg #[.int .i64 1, a, b, c, .int .i64 0], .slice none 0 0, u] w (GivesTold w) := by
  have Hchk := Lib.hid (fun (w' : World) (h : Below w.heap.size w w') => CheckTariff_ok a b c x y z w' (ha.below h) (hb.below h) (hc.below h) hx hy hz)
  have Hall := Lib.hid (fun (w' : World) (h : Below w.heap.size w w') => all_fints (.func 110) #[] #[] (fun x => inB x 0 50) u cs w' (hu.below h) (fun k y w' _ _ => count_val w' y))
  rw [hcs] at Hall
  obtain ⟨A, k, rfl, _, _⟩ := hu.form
  rw [hl] at Hall ⊢
  clear ha hb hc hx hy hz hu hl hcs
  have mk : ∀ (t : TypeId) (w : World), (Instr.makeMap t none).run Tryz.prog w = .ok (.map (some w.heap.size)) (w.alloc (.map #[] 0)) := fun t w => run_makeMap t w
  go_enter Tryz.func68, Tryz.ntmps68
  go_upto_region 1 with (fail)
  try go_step3
  refine wp_name (fun V => Below w.heap.size w V ∧ V.heap[w.heap.size]? = some (.cells #[.int .i64 1, a, b, c, .int .i64 0] 88 (0, 0)) ∧ V.heap[w.heap.size + 1]? = some (.cells #[.slice A 4 k] 29 (0, 0)) ∧ V.heap[w.heap.size + 1 + 1]? = some (.cells #[.slice none 0 0, .slice none 0 0, .slice none 0 0, .slice none 0 0, .slice none 0 0, .slice none 0 0, .slice none 0 0, .slice none 0 0, .slice none 0 0, .slice none 0 0, .map none] 169 (0, 0))) ?_ (fun V hV => ?_)
  · exact ⟨(((Below.refl _ _).alloc (Nat.le_refl _) _).alloc (by simp) _).alloc (by simp; omega) _, (Below.heap_alloc _ _ _ (by simp; omega)).trans ((Below.heap_alloc _ _ _ (by simp)).trans (heap_alloc_new w _)), (Below.heap_alloc _ _ _ (by simp)).trans (heap_alloc2_new w _ _), by have h := heap_alloc_new ((w.alloc (.cells #[.int .i64 1, a, b, c, .int .i64 0] 88)).alloc (.cells #[.slice A 4 k] 29)) (.cells #[.slice none 0 0, .slice none 0 0, .slice none 0 0, .slice none 0 0, .slice none 0 0, .slice none 0 0, .slice none 0 0, .slice none 0 0, .slice none 0 0, .slice none 0 0, .map none] 169 (0, 0)); simpa using h⟩
  obtain ⟨hbV, g1, g2, g3⟩ := hV
  obtain ⟨P, hP⟩ : ∃ P, w.heap.size = P := ⟨_, rfl⟩
  obtain ⟨Q, hQ⟩ : ∃ Q, P + 1 = Q := ⟨_, rfl⟩
  obtain ⟨O, hO⟩ : ∃ O, Q + 1 = O := ⟨_, rfl⟩
  rw [hP] at g1 g2 g3 ⊢
  rw [hQ] at g2 g3 ⊢
  rw [hO] at g3 ⊢
  have hPQ : w.heap.size ≤ O := by omega
  have hneP : P ≠ O := by omega
  have hneQ : Q ≠ O := by omega
  have HbV := Lib.hid hbV
  have G1 := Lib.hid g1
  have G2 := Lib.hid g2
  have G3 := Lib.hid g3
  have q := box_cells g1
  have q0 := q 0
  have q1 := q 1
  have q2 := q 2
  have q3 := q 3
  have q4 := q 4
  simp only [List.getElem?_toArray, List.getElem?_cons_zero, List.getElem?_cons_succ] at q0 q1 q2 q3 q4
  clear hbV g1 g2 g3 q hP hQ hO
  go_wp2_with fail
  refine (Hchk.out _ HbV.out).mono ?_
  rintro e w1 ⟨rfl, hb1⟩
  have H1 := Lib.hid (HbV.out.trans (hb1.mono HbV.out.size))
  have G21 := Lib.hid ((hb1.block _ (Array.getElem?_eq_some_iff.1 G2.out).1).trans G2.out)
  have G31 := Lib.hid ((hb1.block _ (Array.getElem?_eq_some_iff.1 G3.out).1).trans G3.out)
  have l0 := box_cells G21.out 0
  simp only [List.getElem?_toArray, List.getElem?_cons_zero] at l0
  clear q0 q1 q2 q3 q4 hb1
  go_wp2_with fail
  refine (Hall.out _ H1.out).mono ?_
  rintro e w2 ⟨rfl, hb2⟩
  have H2 := Lib.hid (H1.out.trans (hb2.mono H1.out.size))
  have G22 := Lib.hid ((hb2.block _ (Array.getElem?_eq_some_iff.1 G21.out).1).trans G21.out)
  have G32 := Lib.hid ((hb2.block _ (Array.getElem?_eq_some_iff.1 G31.out).1).trans G31.out)
  clear l0 hb2
  go_wp2_with fail
  refine (allTap_nil _ _ _ _).mono ?_
  rintro e w3 ⟨rfl, hb3⟩
  have H3 := Lib.hid (H2.out.trans (hb3.mono H2.out.size))
  have G33 := Lib.hid ((hb3.block _ (Array.getElem?_eq_some_iff.1 G32.out).1).trans G32.out)
  clear hb3
  have hO3 : O < w3.heap.size := (Array.getElem?_eq_some_iff.1 G33.out).1
  have hM0 := mapN_made 222 w3
  have hOm : (w3.alloc (.map #[] 0)).heap[O]? = some (.cells #[.slice none 0 0, .slice none 0 0, .slice none 0 0, .slice none 0 0, .slice none 0 0, .slice none 0 0, .slice none 0 0, .slice none 0 0, .slice none 0 0, .slice none 0 0, .map none] 169 (0, 0)) := (Below.heap_alloc _ _ _ hO3).trans G33.out
  have q10 := box_cells hOm 10
  have f10 := box_frozen hOm
  simp only [List.getElem?_toArray, List.getElem?_cons_zero, List.getElem?_cons_succ] at q10
  go_upto_region 13 with (fail)
  have hset := blk_set G33.out (o := 10) (.map (some w3.heap.size))
  simp only [List.setIfInBounds_toArray, List.set_cons_zero, List.set_cons_succ] at hset
  have e3 : (w3.setCell ⟨O, 10, none⟩ (.map (some w3.heap.size))).heap.size = w3.heap.size := by simp [World.setCell]
  have hM1 := mapN_made 222 (w3.setCell ⟨O, 10, none⟩ (.map (some w3.heap.size)))
  rw [e3] at hM1
  have hb33 := H3.out.setCell (p := ⟨O, 10, none⟩) hPQ (.map (some w3.heap.size))
  refine wp_name (fun V => Below w.heap.size w V ∧ MapN 222 V w3.heap.size 0 (fun _ => none) ∧ V.heap[O]? = some (.cells #[.slice none 0 0, .slice none 0 0, .slice none 0 0, .slice none 0 0, .slice none 0 0, .slice none 0 0, .slice none 0 0, .slice none 0 0, .slice none 0 0, .slice none 0 0, .map (some w3.heap.size)] 169 (0, 0))) ⟨hb33.alloc hb33.size _, hM1, (Below.heap_alloc _ _ _ (by rw [e3]; exact hO3)).trans hset⟩ (fun V4 hV4 => ?_)
  obtain ⟨hb4, hM4, hO4⟩ := hV4
  obtain ⟨K, hK⟩ : ∃ K, w3.heap.size = K := ⟨_, rfl⟩
  have hKO : K ≠ O := by rw [← hK]; omega
  rw [hK] at hM4 hO4 ⊢
  clear q10 f10 hM0 hOm hset hO3 hM1 e3 hb33 hK
  go_wp2
  go_step3
  go_wp2
  go_loopw [11, 51] (fun f s wr => f = .bool false ∧ s = .int .i64 0 ∧ wr = V4) (fun f s wr => 0)
  case atStart => exact ⟨rfl, rfl, rfl⟩
  case round =>
    obtain ⟨rfl, rfl, rfl⟩ := hrel
    go_wp2
    go_loopw [93] (fun s wr => ∃ k : Nat, k ≤ 10 ∧ s = .int .i64 (k : Int) ∧ Below w.heap.size w wr ∧ MapN 222 wr K 0 (fun _ => none) ∧ wr.heap[O]? = some (.cells #[.slice none 0 0, .slice none 0 0, .slice none 0 0, .slice none 0 0, .slice none 0 0, .slice none 0 0, .slice none 0 0, .slice none 0 0, .slice none 0 0, .slice none 0 0, .map (some K)] 169 (0, 0))) (fun s wr => 10 - (intOf s).toNat)
    case atStart => exact ⟨0, by omega, rfl, hb4, hM4, hO4⟩
    case round =>
      obtain ⟨i, hi, rfl, hbr, hMr, hOr⟩ := hrel
      obtain ⟨wq, rfl⟩ : ∃ wq : World, wq = wr := ⟨_, rfl⟩
      have Hbr := Lib.hid hbr
      have HMr := Lib.hid hMr
      have HOr := Lib.hid hOr
      clear hbr hMr hOr
      by_cases hlt : i < 10
      · have hc := toldN_cell HOr.out hlt
        have hf := box_frozen HOr.out
        have hst := toldN_set HOr.out hlt
        have Hst := Lib.hid hst
        have i0 : (i : Int) < 10 := by omega
        have i1 : ¬ (i : Int) < 0 := by omega
        clear hst
        go_upto_region 30 with (refine (onceF_nil _).mono ?_; rintro e w5 ⟨rfl, rfl⟩)
        refine wp_name (fun V => Below w.heap.size w V ∧ MapN 222 V K 0 (fun _ => none) ∧ V.heap[O]? = some (.cells #[.slice none 0 0, .slice none 0 0, .slice none 0 0, .slice none 0 0, .slice none 0 0, .slice none 0 0, .slice none 0 0, .slice none 0 0, .slice none 0 0, .slice none 0 0, .map (some K)] 169 (0, 0))) ⟨Hbr.out.setCell (p := ⟨O, i, none⟩) hPQ _, HMr.out.kept (heap_setCell_other _ _ _ _ hKO), Hst.out⟩ (fun V6 hV6 => ?_)
        obtain ⟨hb6, hM6, hO6⟩ := hV6
        have hc6 := toldN_cell hO6 hlt
        clear hc hf
        go_wp2
        go_roundw
        case rel => exact ⟨i + 1, by omega, by go_num, hb6, hM6, hO6⟩
        case measure => simp [intOf]; omega
      · obtain rfl : i = 10 := by omega
        have q := box_cells HOr.out
        have hf := box_frozen HOr.out
        have q0 := q 0
        have q1 := q 1
        have q2 := q 2
        have q3 := q 3
        have q4 := q 4
        have q5 := q 5
        have q6 := q 6
        have q7 := q 7
        have q8 := q 8
        have q9 := q 9
        have q10 := q 10
        simp only [List.getElem?_toArray, List.getElem?_cons_zero, List.getElem?_cons_succ] at q0 q1 q2 q3 q4 q5 q6 q7 q8 q9 q10
        clear q
        have hput := (blk_set (blk_set (blk_set (blk_set (blk_set (blk_set (blk_set (blk_set (blk_set (blk_set (blk_set HOr.out (o := 0) (.slice none 0 0)) (o := 1) (.slice none 0 0)) (o := 2) (.slice none 0 0)) (o := 3) (.slice none 0 0)) (o := 4) (.slice none 0 0)) (o := 5) (.slice none 0 0)) (o := 6) (.slice none 0 0)) (o := 7) (.slice none 0 0)) (o := 8) (.slice none 0 0)) (o := 9) (.slice none 0 0)) (o := 10) (.map (some K)))
        simp only [List.setIfInBounds_toArray, List.set_cons_zero, List.set_cons_succ] at hput
        have hbp := (((((((((((Hbr.out.setCell (p := ⟨O, 0, none⟩) hPQ (.slice none 0 0)).setCell (p := ⟨O, 1, none⟩) hPQ (.slice none 0 0)).setCell (p := ⟨O, 2, none⟩) hPQ (.slice none 0 0)).setCell (p := ⟨O, 3, none⟩) hPQ (.slice none 0 0)).setCell (p := ⟨O, 4, none⟩) hPQ (.slice none 0 0)).setCell (p := ⟨O, 5, none⟩) hPQ (.slice none 0 0)).setCell (p := ⟨O, 6, none⟩) hPQ (.slice none 0 0)).setCell (p := ⟨O, 7, none⟩) hPQ (.slice none 0 0)).setCell (p := ⟨O, 8, none⟩) hPQ (.slice none 0 0)).setCell (p := ⟨O, 9, none⟩) hPQ (.slice none 0 0)).setCell (p := ⟨O, 10, none⟩) hPQ (.map (some K)))
        have hmp := HMr.out.kept (w' := (((((((((((wq.setCell ⟨O, 0, none⟩ (.slice none 0 0)).setCell ⟨O, 1, none⟩ (.slice none 0 0)).setCell ⟨O, 2, none⟩ (.slice none 0 0)).setCell ⟨O, 3, none⟩ (.slice none 0 0)).setCell ⟨O, 4, none⟩ (.slice none 0 0)).setCell ⟨O, 5, none⟩ (.slice none 0 0)).setCell ⟨O, 6, none⟩ (.slice none 0 0)).setCell ⟨O, 7, none⟩ (.slice none 0 0)).setCell ⟨O, 8, none⟩ (.slice none 0 0)).setCell ⟨O, 9, none⟩ (.slice none 0 0)).setCell ⟨O, 10, none⟩ (.map (some K)))) ((heap_setCell_other _ _ _ _ hKO).trans ((heap_setCell_other _ _ _ _ hKO).trans ((heap_setCell_other _ _ _ _ hKO).trans ((heap_setCell_other _ _ _ _ hKO).trans ((heap_setCell_other _ _ _ _ hKO).trans ((heap_setCell_other _ _ _ _ hKO).trans ((heap_setCell_other _ _ _ _ hKO).trans ((heap_setCell_other _ _ _ _ hKO).trans ((heap_setCell_other _ _ _ _ hKO).trans ((heap_setCell_other _ _ _ _ hKO).trans ((heap_setCell_other _ _ _ _ hKO))))))))))))
        go_wp2
        rw [Exit.noGoto_ret]
        refine bodyPost_ret (results_cell_tmp2 rfl _ _ O 169 _ (0, 0) _ rfl hput rfl rfl (by kernel_rfl)) rfl ⟨K, rfl, hmp, hbp⟩
end Go.Proofs.YtckgapeednokjaaGreat
