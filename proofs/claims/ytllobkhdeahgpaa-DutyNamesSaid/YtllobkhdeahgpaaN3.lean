import Derived.Test.YtllobkhdeahgpaaN2
set_option linter.unusedVariables false
set_option linter.unusedSimpArgs false
namespace Go.Proofs.Ytllobkhdeahgpaa
open Go Go.Proofs Go.RowKit

/-! ### The document's examples, worked out -/
def shortL : DLaw := ⟨125, 420, 600, 30, 10, 10, 300, 2⟩
def oddL : DLaw := ⟨240, 420, 600, 0, 10, 10, 300, 2⟩
def zeroL : DLaw := ⟨0, 0, 0, 0, 0, 0, 0, 0⟩
def shortD : DDay := ⟨shortL, mondayD.blocks, mondayD.walk⟩
def oddD : DDay := ⟨oddL, mondayD.blocks, mondayD.walk⟩
def noneD : DDay := ⟨mondayL, [], mondayD.walk⟩
def manyD : DDay := ⟨mondayL, List.replicate 7 [], mondayD.walk⟩
def emptyD : DDay := ⟨zeroL, [], []⟩
theorem mild_of {d : DDay} (h1 : d.blocks.length ≤ 1000) (h2 : ∀ x ∈ d.blocks, x.length ≤ 1000) (h3 : d.walk.length ≤ 1000) (h4 : ∀ x ∈ d.walk, x.length ≤ 1000) : Mild d :=
  ⟨h1, fun b x hx => h2 x (List.mem_of_getElem? hx), h3, fun b x hx => h4 x (List.mem_of_getElem? hx)⟩
theorem short_mild : Mild shortD := mild_of (by decide) (by decide) (by decide) (by decide)
theorem odd_mild : Mild oddD := mild_of (by decide) (by decide) (by decide) (by decide)
theorem none_mild : Mild noneD := mild_of (by decide) (by decide) (by decide) (by decide)
theorem many_mild : Mild manyD := mild_of (by decide) (by decide) (by decide) (by decide)
theorem empty_mild : Mild emptyD := mild_of (by decide) (by decide) (by decide) (by decide)
theorem short_ok : (faultD shortD != 0) = false := by decide +kernel
theorem none_ok : (faultD noneD != 0) = false := by decide +kernel
theorem n_fault : faultD oddD = 1 ∧ faultD emptyD = 1 ∧ faultD manyD = 3 := by decide +kernel
theorem n_pay : payQ mondayD [0, 2] = 390 ∧ payE mondayD [0, 2] = 0 ∧ payQ mondayD [3, 4] = 300 ∧ payE mondayD [3, 4] = 0 ∧ payQ mondayD [0, 1] = 0 ∧ payE mondayD [0, 1] = 10 := by decide +kernel
theorem n_leg : legalQ mondayD [2, 0] = false ∧ askE mondayD [2, 0] = 2 ∧ legalQ mondayD [] = false ∧ askE mondayD [] = 2 := by decide +kernel
theorem n_bound : boundQ mondayD [1000, 0, 500, 0, 0] = (0, 9) ∧ boundQ mondayD [1000] = (0, 2) := by decide +kernel
theorem n_best : bestP mondayD = [[0, 2], [1], [3, 4]] ∧ (bestV shortD).can = false ∧ (bestV noneD).can = true ∧ bestP noneD = [] ∧ (bestV noneD).pay = 0 := by decide +kernel
theorem n_barred : barredL shortD = [0, 1, 2] ∧ barredL mondayD = [] := by decide +kernel
theorem n_prove : proveB mondayD [[0, 2], [1], [3, 4]] = true ∧ proveB mondayD [[1], [3, 4]] = false := by decide +kernel
def tt1 : List (List Int) := [[300, 425, 540, 660], [400, 505, 610]]
def tt2 : List (List Int) := [[300, 425, 540, 660], [400, 505, 621]]
theorem n_truth : dutyB (segN mondayD.blocks) [0, 2] = true ∧ truthB mondayD.blocks tt1 = true ∧ truthB mondayD.blocks tt2 = false := by decide +kernel
theorem n_work : driveP (tabT tt1) (tabT tt1) (piecesL mondayD (natsOf [0, 2])) = 245 ∧ spreadP mondayD (tabT tt1) (tabT tt1) (piecesL mondayD (natsOf [0, 2])) = 380 ∧ breaksP (tabT tt1) (tabT tt1) (piecesL mondayD (natsOf [0, 2])) = [115] ∧ obeysB mondayD (tabT tt1) (tabT tt1) (piecesL mondayD (natsOf [0, 2])) = true ∧ (piecesL mondayD (natsOf [0, 2])).length = 2 := by decide +kernel
theorem pay_02 (u z v : Value) (w : World) (hda : DayAt w u z mondayD) (hv : NumsAt .i64 w v [0, 2]) : Calls Try.prog 26 #[.agg #[.int .i64 mondayL.piece, .int .i64 mondayL.drive, .int .i64 mondayL.spread, .int .i64 mondayL.brk, .int .i64 mondayL.on, .int .i64 mondayL.off, .int .i64 mondayL.least, .int .i64 mondayL.pieces, u, z], v] w (Gives w (.tuple #[.int .i64 390, .int .i64 0])) := by
  have h := Pay_any mondayD u z v [0, 2] w hda monday_mild hv (by simp)
  rw [n_pay.1, n_pay.2.1] at h
  exact h
theorem pay_34 (u z v : Value) (w : World) (hda : DayAt w u z mondayD) (hv : NumsAt .i64 w v [3, 4]) : Calls Try.prog 26 #[.agg #[.int .i64 mondayL.piece, .int .i64 mondayL.drive, .int .i64 mondayL.spread, .int .i64 mondayL.brk, .int .i64 mondayL.on, .int .i64 mondayL.off, .int .i64 mondayL.least, .int .i64 mondayL.pieces, u, z], v] w (Gives w (.tuple #[.int .i64 300, .int .i64 0])) := by
  have h := Pay_any mondayD u z v [3, 4] w hda monday_mild hv (by simp)
  rw [n_pay.2.2.1, n_pay.2.2.2.1] at h
  exact h
theorem pay_01 (u z v : Value) (w : World) (hda : DayAt w u z mondayD) (hv : NumsAt .i64 w v [0, 1]) : Calls Try.prog 26 #[.agg #[.int .i64 mondayL.piece, .int .i64 mondayL.drive, .int .i64 mondayL.spread, .int .i64 mondayL.brk, .int .i64 mondayL.on, .int .i64 mondayL.off, .int .i64 mondayL.least, .int .i64 mondayL.pieces, u, z], v] w (Gives w (.tuple #[.int .i64 0, .int .i64 10])) := by
  have h := Pay_any mondayD u z v [0, 1] w hda monday_mild hv (by simp)
  rw [n_pay.2.2.2.2.1, n_pay.2.2.2.2.2] at h
  exact h
theorem legal_20 (u z v : Value) (w : World) (hda : DayAt w u z mondayD) (hv : NumsAt .i64 w v [2, 0]) : Calls Try.prog 20 #[.agg #[.int .i64 mondayL.piece, .int .i64 mondayL.drive, .int .i64 mondayL.spread, .int .i64 mondayL.brk, .int .i64 mondayL.on, .int .i64 mondayL.off, .int .i64 mondayL.least, .int .i64 mondayL.pieces, u, z], v] w (Gives w (.tuple #[.bool false, .int .i64 2])) := by
  have h := Legal_any mondayD u z v [2, 0] w hda monday_mild hv (by simp)
  rw [n_leg.1, n_leg.2.1] at h
  exact h
theorem legal_nil (u z v : Value) (w : World) (hda : DayAt w u z mondayD) (hv : NumsAt .i64 w v []) : Calls Try.prog 20 #[.agg #[.int .i64 mondayL.piece, .int .i64 mondayL.drive, .int .i64 mondayL.spread, .int .i64 mondayL.brk, .int .i64 mondayL.on, .int .i64 mondayL.off, .int .i64 mondayL.least, .int .i64 mondayL.pieces, u, z], v] w (Gives w (.tuple #[.bool false, .int .i64 2])) := by
  have h := Legal_any mondayD u z v [] w hda monday_mild hv (by simp)
  rw [n_leg.2.2.1, n_leg.2.2.2] at h
  exact h
theorem bound_9 (u z v : Value) (w : World) (hda : DayAt w u z mondayD) (hv : NumsAt .i64 w v [1000, 0, 500, 0, 0]) : Calls Try.prog 16 #[.agg #[.int .i64 mondayL.piece, .int .i64 mondayL.drive, .int .i64 mondayL.spread, .int .i64 mondayL.brk, .int .i64 mondayL.on, .int .i64 mondayL.off, .int .i64 mondayL.least, .int .i64 mondayL.pieces, u, z], v] w (Gives w (.tuple #[.int .i64 0, .int .i64 9])) := by
  have h := Bound_any mondayD u z v [1000, 0, 500, 0, 0] w hda monday_mild hv
  rw [n_bound.1] at h
  exact h
theorem bound_2 (u z v : Value) (w : World) (hda : DayAt w u z mondayD) (hv : NumsAt .i64 w v [1000]) : Calls Try.prog 16 #[.agg #[.int .i64 mondayL.piece, .int .i64 mondayL.drive, .int .i64 mondayL.spread, .int .i64 mondayL.brk, .int .i64 mondayL.on, .int .i64 mondayL.off, .int .i64 mondayL.least, .int .i64 mondayL.pieces, u, z], v] w (Gives w (.tuple #[.int .i64 0, .int .i64 2])) := by
  have h := Bound_any mondayD u z v [1000] w hda monday_mild hv
  rw [n_bound.2] at h
  exact h
theorem best_M (u z : Value) (w : World) (hda : DayAt w u z mondayD) : Calls Try.prog 14 #[.agg #[.int .i64 mondayL.piece, .int .i64 mondayL.drive, .int .i64 mondayL.spread, .int .i64 mondayL.brk, .int .i64 mondayL.on, .int .i64 mondayL.off, .int .i64 mondayL.least, .int .i64 mondayL.pieces, u, z]] w fun e w' => ∃ A c, e = .returned (.tuple #[.slice A 3 c, .int .i64 990, .int .i64 0]) ∧ RowsAt w' (.slice A 3 c) [[0, 2], [1], [3, 4]] ∧ Below w.heap.size w w' :=
  (Best_any mondayD u z w hda monday_mild).mono fun e w' h => by
    obtain ⟨A, c, he, hr⟩ := h.2.2.2 monday_ok monday_best.1
    rw [monday_best.2.1, monday_best.2.2] at he
    rw [n_best.1] at hr
    exact ⟨A, c, he, hr, h.1⟩
theorem best_S (u z : Value) (w : World) (hda : DayAt w u z shortD) : Calls Try.prog 14 #[.agg #[.int .i64 shortL.piece, .int .i64 shortL.drive, .int .i64 shortL.spread, .int .i64 shortL.brk, .int .i64 shortL.on, .int .i64 shortL.off, .int .i64 shortL.least, .int .i64 shortL.pieces, u, z]] w (Gives w (.tuple #[.slice none 0 0, .int .i64 0, .int .i64 9])) :=
  (Best_any shortD u z w hda short_mild).mono fun e w' h => ⟨h.2.2.1 short_ok n_best.2.1, h.1⟩
theorem best_N (u z : Value) (w : World) (hda : DayAt w u z noneD) : Calls Try.prog 14 #[.agg #[.int .i64 mondayL.piece, .int .i64 mondayL.drive, .int .i64 mondayL.spread, .int .i64 mondayL.brk, .int .i64 mondayL.on, .int .i64 mondayL.off, .int .i64 mondayL.least, .int .i64 mondayL.pieces, u, z]] w fun e w' => ∃ A c, e = .returned (.tuple #[.slice A 0 c, .int .i64 0, .int .i64 0]) ∧ Below w.heap.size w w' :=
  (Best_any noneD u z w hda none_mild).mono fun e w' h => by
    obtain ⟨A, c, he, hr⟩ := h.2.2.2 none_ok n_best.2.2.1
    rw [n_best.2.2.2.1, n_best.2.2.2.2] at he
    exact ⟨A, c, he, h.1⟩
theorem barred_S (u z : Value) (w : World) (hda : DayAt w u z shortD) : Calls Try.prog 27 #[.agg #[.int .i64 shortL.piece, .int .i64 shortL.drive, .int .i64 shortL.spread, .int .i64 shortL.brk, .int .i64 shortL.on, .int .i64 shortL.off, .int .i64 shortL.least, .int .i64 shortL.pieces, u, z]] w fun e w' => ∃ A c, e = .returned (.tuple #[.slice A 3 c, .int .i64 0]) ∧ NumsAt .i64 w' (.slice A 3 c) [0, 1, 2] ∧ Below w.heap.size w w' :=
  (Barred_any shortD u z w hda short_mild).mono fun e w' h => by
    obtain ⟨A, c, he, hr⟩ := h.2.2.2 short_ok (by rw [n_barred.1]; simp)
    rw [n_barred.1] at he hr
    exact ⟨A, c, he, hr, h.1⟩
theorem barred_M (u z : Value) (w : World) (hda : DayAt w u z mondayD) : Calls Try.prog 27 #[.agg #[.int .i64 mondayL.piece, .int .i64 mondayL.drive, .int .i64 mondayL.spread, .int .i64 mondayL.brk, .int .i64 mondayL.on, .int .i64 mondayL.off, .int .i64 mondayL.least, .int .i64 mondayL.pieces, u, z]] w (Gives w (.tuple #[.slice none 0 0, .int .i64 7])) :=
  (Barred_any mondayD u z w hda monday_mild).mono fun e w' h => ⟨h.2.2.1 monday_ok n_barred.2, h.1⟩
theorem prove_1 (u z v : Value) (w : World) (hda : DayAt w u z mondayD) (hv : RowsAt w v [[0, 2], [1], [3, 4]]) : Calls Try.prog 29 #[.agg #[.int .i64 mondayL.piece, .int .i64 mondayL.drive, .int .i64 mondayL.spread, .int .i64 mondayL.brk, .int .i64 mondayL.on, .int .i64 mondayL.off, .int .i64 mondayL.least, .int .i64 mondayL.pieces, u, z], v] w (Gives w (.bool true)) := by
  have h := ProvePlan_any mondayD u z v _ w hda monday_mild hv (fun j l hl => by have := List.mem_of_getElem? hl; simp at this; rcases this with rfl | rfl | rfl <;> simp)
  rw [n_prove.1] at h
  exact h
theorem prove_2 (u z v : Value) (w : World) (hda : DayAt w u z mondayD) (hv : RowsAt w v [[1], [3, 4]]) : Calls Try.prog 29 #[.agg #[.int .i64 mondayL.piece, .int .i64 mondayL.drive, .int .i64 mondayL.spread, .int .i64 mondayL.brk, .int .i64 mondayL.on, .int .i64 mondayL.off, .int .i64 mondayL.least, .int .i64 mondayL.pieces, u, z], v] w (Gives w (.bool false)) := by
  have h := ProvePlan_any mondayD u z v _ w hda monday_mild hv (fun j l hl => by have := List.mem_of_getElem? hl; simp at this; rcases this with rfl | rfl <;> simp)
  rw [n_prove.2] at h
  exact h
theorem do_1 (u z v vt : Value) (w : World) (hda : DayAt w u z mondayD) (hv : NumsAt .i64 w v [0, 2]) (hvt : RowsAt w vt tt1) : Calls Try.prog 32 #[.agg #[.int .i64 mondayL.piece, .int .i64 mondayL.drive, .int .i64 mondayL.spread, .int .i64 mondayL.brk, .int .i64 mondayL.on, .int .i64 mondayL.off, .int .i64 mondayL.least, .int .i64 mondayL.pieces, u, z], v, vt] w fun e w' => ∃ A c, e = .returned (.tuple #[.agg #[.int .i64 245, .int .i64 380, .slice A 1 c, .bool true], .int .i64 0]) ∧ NumsAt .i64 w' (.slice A 1 c) [115] ∧ Below w.heap.size w w' :=
  (Do_ok mondayD u z v vt [0, 2] tt1 w hda monday_mild hv (by simp) hvt (fault_ok monday_ok) n_truth.1 n_truth.2.1).mono fun e w' h => by
    obtain ⟨A, c, he, hn, hb⟩ := h
    rw [n_work.1, n_work.2.1, n_work.2.2.2.1, n_work.2.2.2.2] at he
    rw [n_work.2.2.1, n_work.2.2.2.2] at hn
    exact ⟨A, c, he, hn, hb⟩
theorem do_2 (u z v vt : Value) (w : World) (hda : DayAt w u z mondayD) (hv : NumsAt .i64 w v [0, 2]) (hvt : RowsAt w vt tt2) : Calls Try.prog 32 #[.agg #[.int .i64 mondayL.piece, .int .i64 mondayL.drive, .int .i64 mondayL.spread, .int .i64 mondayL.brk, .int .i64 mondayL.on, .int .i64 mondayL.off, .int .i64 mondayL.least, .int .i64 mondayL.pieces, u, z], v, vt] w (Gives w (.tuple #[.agg #[.int .i64 0, .int .i64 0, .slice none 0 0, .bool false], .int .i64 2])) :=
  Do_untrue mondayD u z v vt [0, 2] tt2 w hda monday_mild hv (by simp) hvt (fault_ok monday_ok) n_truth.1 n_truth.2.2
theorem check_O (u z : Value) (w : World) (hda : DayAt w u z oddD) : Calls Try.prog 34 #[.agg #[.int .i64 oddL.piece, .int .i64 oddL.drive, .int .i64 oddL.spread, .int .i64 oddL.brk, .int .i64 oddL.on, .int .i64 oddL.off, .int .i64 oddL.least, .int .i64 oddL.pieces, u, z]] w (Gives w (.int .i64 1)) := by
  have h := CheckDay_any oddD u z w hda odd_mild
  rw [n_fault.1] at h
  exact h
theorem check_E (u z : Value) (w : World) (hda : DayAt w u z emptyD) : Calls Try.prog 34 #[.agg #[.int .i64 zeroL.piece, .int .i64 zeroL.drive, .int .i64 zeroL.spread, .int .i64 zeroL.brk, .int .i64 zeroL.on, .int .i64 zeroL.off, .int .i64 zeroL.least, .int .i64 zeroL.pieces, u, z]] w (Gives w (.int .i64 1)) := by
  have h := CheckDay_any emptyD u z w hda empty_mild
  rw [n_fault.2.1] at h
  exact h
theorem check_M (u z : Value) (w : World) (hda : DayAt w u z manyD) : Calls Try.prog 34 #[.agg #[.int .i64 mondayL.piece, .int .i64 mondayL.drive, .int .i64 mondayL.spread, .int .i64 mondayL.brk, .int .i64 mondayL.on, .int .i64 mondayL.off, .int .i64 mondayL.least, .int .i64 mondayL.pieces, u, z]] w (Gives w (.int .i64 3)) := by
  have h := CheckDay_any manyD u z w hda many_mild
  rw [n_fault.2.2] at h
  exact h
theorem many_blocks {w : World} {g : Nat} {t : TypeId} (h : w.heap[g]? = some (.cells (List.replicate 7 (Value.slice none 0 0)).toArray t (0, 0))) : BlocksAt w (.slice (some ⟨g, 0, none⟩) 7 7) manyD.blocks := by
  refine ⟨_, 7, rfl, by simp [manyD], by simp [maxLen], fun _ => ⟨g, 0, rfl, fun k r hk => ⟨.slice none 0 0, ?_, ?_⟩⟩⟩
  · have hl := (List.getElem?_eq_some_iff.1 hk).1
    simp only [manyD, List.length_replicate] at hl
    rw [Nat.zero_add]
    unfold World.cell?
    simp only [h]
    rw [List.getElem?_toArray, List.getElem?_replicate, if_pos hl]
    rfl
  · have : r = [] := List.eq_of_mem_replicate (List.mem_of_getElem? hk)
    subst this
    exact ⟨none, 0, rfl, Nat.le_refl _, by simp [maxLen], fun h => absurd h (by simp)⟩
theorem no_blocks (w : World) : BlocksAt w (.slice none 0 0) [] := ⟨none, 0, rfl, Nat.le_refl _, by simp [maxLen], fun h => absurd h (by simp)⟩
theorem no_rows (w : World) : RowsAt w (.slice none 0 0) [] := ⟨none, 0, rfl, Nat.le_refl _, by simp [maxLen], fun h => absurd h (by simp)⟩
theorem no_nums (w : World) : NumsAt .i64 w (.slice none 0 0) [] := ⟨none, 0, rfl, Nat.le_refl _, by simp [maxLen], fun h => absurd h (by simp)⟩
theorem rows_three {w : World} {A : Option Addr} {c : Nat} {l0 l1 l2 : List Int} (h : RowsAt w (.slice A 3 c) [l0, l1, l2]) : ∃ b o A0 A1 A2 c0 c1 c2, A = some ⟨b, o, none⟩ ∧ 3 ≤ c ∧ c ≤ maxLen ∧
    w.cell? ⟨b, o, none⟩ = some (.slice A0 l0.length c0) ∧ w.cell? ⟨b, o + 1, none⟩ = some (.slice A1 l1.length c1) ∧ w.cell? ⟨b, o + 2, none⟩ = some (.slice A2 l2.length c2) ∧
    NumsAt .i64 w (.slice A0 l0.length c0) l0 ∧ NumsAt .i64 w (.slice A1 l1.length c1) l1 ∧ NumsAt .i64 w (.slice A2 l2.length c2) l2 := by
  obtain ⟨A', c', e, h1, h2, h3⟩ := h
  simp only [List.length_cons, List.length_nil, Value.slice.injEq] at e h1
  obtain ⟨rfl, _, rfl⟩ := e
  obtain ⟨b, o, rfl, hc⟩ := h3 (by simp)
  obtain ⟨u0, k0, n0⟩ := hc 0 (by simp)
  obtain ⟨u1, k1, n1⟩ := hc 1 (by simp)
  obtain ⟨u2, k2, n2⟩ := hc 2 (by simp)
  simp only [List.getElem?_cons_zero, List.getElem?_cons_succ, Option.getD_some] at n0 n1 n2
  obtain ⟨A0, c0, rfl, _, _⟩ := n0.form
  obtain ⟨A1, c1, rfl, _, _⟩ := n1.form
  obtain ⟨A2, c2, rfl, _, _⟩ := n2.form
  exact ⟨b, o, A0, A1, A2, c0, c1, c2, rfl, h1, h2, k0, k1, k2, n0, n1, n2⟩
theorem rows_back {w : World} {b o c : Nat} {u1 u2 : Value} {l1 l2 : List Int} (hc : 3 ≤ c ∧ c ≤ maxLen) (k1 : w.cell? ⟨b, o + 1, none⟩ = some u1) (k2 : w.cell? ⟨b, o + 2, none⟩ = some u2) (n1 : NumsAt .i64 w u1 l1) (n2 : NumsAt .i64 w u2 l2) : RowsAt w (.slice (some ⟨b, o + 1, none⟩) 2 (c - 1)) [l1, l2] := by
  refine ⟨_, _, rfl, by simp; omega, by omega, fun _ => ⟨b, o + 1, rfl, fun k hk => ?_⟩⟩
  match k, hk with
  | 0, _ => exact ⟨u1, k1, n1⟩
  | 1, _ => exact ⟨u2, k2, n2⟩
theorem lits_two (w : World) (x y z : List Int) (t t2 : TypeId) (hx : x.length ≤ maxLen) (hy : y.length ≤ maxLen) (hz : z.length ≤ maxLen) :
    ∃ V, V = (((w.alloc (.cells (x.map (.int .i64)).toArray t)).alloc (.cells (y.map (.int .i64)).toArray t)).alloc (.cells (z.map (.int .i64)).toArray t)).alloc (.cells #[.slice (some ⟨w.heap.size + 1, 0, none⟩) y.length y.length, .slice (some ⟨w.heap.size + 1 + 1, 0, none⟩) z.length z.length] t2) ∧
      Below w.heap.size w V ∧ NumsAt .i64 V (.slice (some ⟨w.heap.size, 0, none⟩) x.length x.length) x ∧ RowsAt V (.slice (some ⟨w.heap.size + 1 + 1 + 1, 0, none⟩) 2 2) [y, z] := by
  refine ⟨_, rfl, ?_⟩
  obtain ⟨w1, e1⟩ : ∃ w1, w1 = w.alloc (.cells (x.map (.int .i64)).toArray t) := ⟨_, rfl⟩
  have s1 : w1.heap.size = w.heap.size + 1 := by rw [e1]; simp
  have n1 := nums_new w x t hx
  have b1 : Below w.heap.size w w1 := by rw [e1]; exact (Below.refl _ _).alloc (Nat.le_refl _) _
  rw [← e1] at n1 ⊢
  clear e1
  obtain ⟨w2, e2⟩ : ∃ w2, w2 = w1.alloc (.cells (y.map (.int .i64)).toArray t) := ⟨_, rfl⟩
  have s2 : w2.heap.size = w1.heap.size + 1 := by rw [e2]; simp
  have n2 := nums_new w1 y t hy
  have b2 : Below w1.heap.size w1 w2 := by rw [e2]; exact (Below.refl _ _).alloc (Nat.le_refl _) _
  rw [← e2] at n2 ⊢
  clear e2
  obtain ⟨w3, e3⟩ : ∃ w3, w3 = w2.alloc (.cells (z.map (.int .i64)).toArray t) := ⟨_, rfl⟩
  have s3 : w3.heap.size = w2.heap.size + 1 := by rw [e3]; simp
  have n3 := nums_new w2 z t hz
  have b3 : Below w2.heap.size w2 w3 := by rw [e3]; exact (Below.refl _ _).alloc (Nat.le_refl _) _
  rw [← e3] at n3 ⊢
  clear e3
  have hb := heap_alloc_new w3 (.cells #[.slice (some ⟨w.heap.size + 1, 0, none⟩) y.length y.length, .slice (some ⟨w.heap.size + 1 + 1, 0, none⟩) z.length z.length] t2 (0, 0))
  have b4 : Below w3.heap.size w3 (w3.alloc (.cells #[.slice (some ⟨w.heap.size + 1, 0, none⟩) y.length y.length, .slice (some ⟨w.heap.size + 1 + 1, 0, none⟩) z.length z.length] t2)) := (Below.refl _ _).alloc (Nat.le_refl _) _
  rw [s3, s2, s1] at hb
  have k := box_cells hb
  rw [s2, s1] at n3
  rw [s1] at n2
  have b34 := b3.trans (b4.mono b3.size)
  have b234 := b2.trans (b34.mono b2.size)
  exact ⟨b1.trans (b234.mono b1.size), n1.below b234, rows_two (k 0) (k 1) (n2.below b34) (n3.below b4)⟩
end Go.Proofs.Ytllobkhdeahgpaa
