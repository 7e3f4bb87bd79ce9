import Derived.Test.YtmbkpfkkohpnkaaTb
import Derived.Test.YtmbkpfkkohpnkaaRs
import Derived.Deep.CutRange
import Derived.Deep.Cut
set_option linter.unusedVariables false
set_option linter.unusedSimpArgs false
namespace Go.Proofs.Ytmbkpfkkohpnkaa
open Go Go.Proofs Go.RowKit

/-! ### A block that holds a list, and nothing else -/
theorem own_blk {W : World} {B base size n : Nat} {cs : Array Value} {e : TypeId} (h : W.heap[B]? = some (.cells cs e (0, 0))) (hb : base ≤ B) (hm : n ≤ maxLen) (hs : cs.size = n * size) : W.ownsRow base e size (.slice (some ⟨B, 0, none⟩) n n) n cs.toList :=
  ⟨by simpa using hs, .inr ⟨B, n, cs, rfl, hb, h, Nat.le_refl _, hm, hs, List.take_of_length_le (by rw [Array.length_toList, hs]; exact Nat.le_refl _)⟩⟩
theorem rds_blk {W : World} {B : Nat} {e : TypeId} (l : List Rd) (n : Nat) (hn : l.length = n) (hm : n ≤ 1000) (h : W.heap[B]? = some (.cells (l.flatMap rdC).toArray e (0, 0))) : RdsAt W (.slice (some ⟨B, 0, none⟩) n n) l := by
  have ho := own_blk (base := 0) (size := 4) (n := n) h (Nat.zero_le _) (by unfold maxLen; omega) (by simp only [List.size_toArray]; rw [flat_length (f := rdC) (n := 4) (fun _ => rfl), hn])
  exact rds_own (by simpa using ho)
theorem tks_blk {W : World} {B : Nat} {e : TypeId} (l : List Tk) (n : Nat) (hn : l.length = n) (hm : n ≤ 1000) (h : W.heap[B]? = some (.cells (l.flatMap tkC).toArray e (0, 0))) : TksAt W (.slice (some ⟨B, 0, none⟩) n n) l := by
  have ho := own_blk (base := 0) (size := 5) (n := n) h (Nat.zero_le _) (by unfold maxLen; omega) (by simp only [List.size_toArray]; rw [flat_length (f := tkC) (n := 5) (fun _ => rfl), hn])
  exact tks_own (by simpa using ho)
theorem tps_blk {W : World} {B : Nat} {e : TypeId} (l : List Tp) (n : Nat) (hn : l.length = n) (hm : n ≤ 1000) (h : W.heap[B]? = some (.cells (l.flatMap tpC).toArray e (0, 0))) : TpsAt W (.slice (some ⟨B, 0, none⟩) n n) l := by
  have ho := own_blk (base := 0) (size := 7) (n := n) h (Nat.zero_le _) (by unfold maxLen; omega) (by simp only [List.size_toArray]; rw [flat_length (f := tpC) (n := 7) (fun _ => rfl), hn])
  exact tps_own (by simpa using ho)
theorem ints_blk {W : World} {B : Nat} {e : TypeId} (l : List Int) (n : Nat) (hn : l.length = n) (hm : n ≤ 1000) (h : W.heap[B]? = some (.cells (l.map (.int .i64)).toArray e (0, 0))) : NumsAt .i64 W (.slice (some ⟨B, 0, none⟩) n n) l := by
  have ho := own_blk (base := 0) (size := 1) (n := n) h (Nat.zero_le _) (by unfold maxLen; omega) (by simp [hn])
  exact nums_of_own (by simpa using ho)
theorem nums_take {W : World} {B : Nat} {k n c : Nat} {l : List Int} (h : NumsAt .i64 W (.slice (some ⟨B, 0, none⟩) n c) l) (hk : k ≤ n) : NumsAt .i64 W (.slice (some ⟨B, 0, none⟩) k c) (l.take k) := by
  obtain ⟨A, c', e, h1, h2, h3⟩ := h
  cases e
  have hl : (l.take k).length = k := by rw [List.length_take]; omega
  refine ⟨_, c, by rw [hl], by omega, h2, fun h0 => ?_⟩
  obtain ⟨b', o', e, h4⟩ := h3 (by omega)
  cases e
  refine ⟨B, 0, rfl, fun j hj => ?_⟩
  rw [h4 j (by omega), List.getElem?_take, if_pos (by omega)]
/-! ### City and tapped, with their blocks -/
set_option maxRecDepth 100000 in
theorem city_blk (w : World) : Calls Try.prog 42 #[] w fun e w' => ∃ B, w.heap.size ≤ B ∧ e = .returned (.agg #[.int .i64 3, .slice (some ⟨B, 0, none⟩) 3 3, .slice (some ⟨B + 1, 0, none⟩) 3 3, .slice (some ⟨B + 1 + 1, 0, none⟩) 3 3, .int .i64 60]) ∧
    w'.heap[B]? = some (.cells #[.int .i64 2, .int .i64 3, .int .i64 5] 3 (0, 0)) ∧ w'.heap[B + 1]? = some (.cells #[.int .i64 4, .int .i64 6, .int .i64 8] 3 (0, 0)) ∧ w'.heap[B + 1 + 1]? = some (.cells #[.int .i64 15, .int .i64 20, .int .i64 30] 3 (0, 0)) ∧ Below w.heap.size w w' := by
  go_enter Try.func42, Try.ntmps42
  go_wp2
  refine bodyPost_ret (v := .agg #[.int .i64 3, .slice (some ⟨w.heap.size + 1, 0, none⟩) 3 3, .slice (some ⟨w.heap.size + 1 + 1, 0, none⟩) 3 3, .slice (some ⟨w.heap.size + 1 + 1 + 1, 0, none⟩) 3 3, .int .i64 60]) (by simp [results, Try.results42, go_sem]) rfl ?_
  refine ⟨w.heap.size + 1, by omega, rfl, heap_in (heap_in (heap_alloc2_new w _ _)), heap_in (heap_alloc3_new w _ _ _), ?_, ((((Below.refl _ _).alloc (Nat.le_refl _) _).alloc (by simp) _).alloc (by simp; omega) _).alloc (by simp; omega) _⟩
  rw [heap_alloc_if, if_pos (by simp)]
set_option maxRecDepth 100000 in
set_option maxHeartbeats 1000000 in
theorem tapped_blk (w : World) : Calls Try.prog 43 #[] w fun e w' => ∃ B, e = .returned (.slice (some ⟨B, 0, none⟩) 2 2) ∧ w'.heap[B]? = some (.cells (tappedL.flatMap tpC).toArray 91 (0, 0)) ∧ Below w.heap.size w w' ∧ w.heap.size ≤ B := by
  go_enter Try.func43, Try.ntmps43
  go_upto_region 1 with (fail)
  refine wp_region_noPanic ?_
  refine wp_region_front (fun _ => true) (fun w' => Below w.heap.size w w' ∧ w'.heap[w.heap.size]? = some (.cells #[.int .i64 0, .int .i64 480, .int .i64 0, .int .i64 0, .int .i64 0, .int .i64 530, .int .i64 0, .int .i64 1, .int .i64 0, .int .i64 560, .int .i64 1, .int .i64 1, .int .i64 0, .int .i64 700, .int .i64 0, .int .i64 1] 70 (0, 0))) (by kernel_rfl) ?_
  refine wpAnyF_one (i := 0) (by kernel_rfl) rfl (fun K hK => ?_)
  go_simp
  refine (rode_any _).mono ?_
  rintro e w1 ⟨rfl, rfl⟩
  have hs1 : Below w.heap.size w (w.drew.alloc (.cells #[.int .i64 0, .int .i64 480, .int .i64 0, .int .i64 0, .int .i64 0, .int .i64 530, .int .i64 0, .int .i64 1, .int .i64 0, .int .i64 560, .int .i64 1, .int .i64 1, .int .i64 0, .int .i64 700, .int .i64 0, .int .i64 1] 70)) ∧ (w.drew.alloc (.cells #[.int .i64 0, .int .i64 480, .int .i64 0, .int .i64 0, .int .i64 0, .int .i64 530, .int .i64 0, .int .i64 1, .int .i64 0, .int .i64 560, .int .i64 1, .int .i64 1, .int .i64 0, .int .i64 700, .int .i64 0, .int .i64 1] 70)).heap[w.heap.size]? = some (.cells #[.int .i64 0, .int .i64 480, .int .i64 0, .int .i64 0, .int .i64 0, .int .i64 530, .int .i64 0, .int .i64 1, .int .i64 0, .int .i64 560, .int .i64 1, .int .i64 1, .int .i64 0, .int .i64 700, .int .i64 0, .int .i64 1] 70 (0, 0)) := ⟨(Below.refl _ _).drew.alloc (Nat.le_refl _) _, heap_alloc_new w.drew _⟩
  refine hK.out _ _ (fun _ => hs1) ?_
  clear hK K
  generalize w.drew.alloc (.cells #[.int .i64 0, .int .i64 480, .int .i64 0, .int .i64 0, .int .i64 0, .int .i64 530, .int .i64 0, .int .i64 1, .int .i64 0, .int .i64 560, .int .i64 1, .int .i64 1, .int .i64 0, .int .i64 700, .int .i64 0, .int .i64 1] 70) = w1 at *
  try go_simp
  refine wpAnyF_pick (by kernel_rfl) (fun _ _ _ _ _ h => h) 6 [1, 2, 3] _ _ _ (by kernel_rfl) hs1 ?_
  have hne : Nonempty (Meets (fun w' => Below w.heap.size w w' ∧ w'.heap[w.heap.size]? = some (.cells #[.int .i64 0, .int .i64 480, .int .i64 0, .int .i64 0, .int .i64 0, .int .i64 530, .int .i64 0, .int .i64 1, .int .i64 0, .int .i64 560, .int .i64 1, .int .i64 1, .int .i64 0, .int .i64 700, .int .i64 0, .int .i64 1] 70 (0, 0)))) := ⟨⟨_, hs1⟩⟩
  have n4 : ∀ x : Meets (fun w' => Below w.heap.size w w' ∧ w'.heap[w.heap.size]? = some (.cells #[.int .i64 0, .int .i64 480, .int .i64 0, .int .i64 0, .int .i64 0, .int .i64 530, .int .i64 0, .int .i64 1, .int .i64 0, .int .i64 560, .int .i64 1, .int .i64 1, .int .i64 0, .int .i64 700, .int .i64 0, .int .i64 1] 70 (0, 0))), x.val.cell? ⟨w.heap.size, 4, none⟩ = some (.int .i64 0) := fun x => box_cells x.property.2 4
  have n5 : ∀ x : Meets (fun w' => Below w.heap.size w w' ∧ w'.heap[w.heap.size]? = some (.cells #[.int .i64 0, .int .i64 480, .int .i64 0, .int .i64 0, .int .i64 0, .int .i64 530, .int .i64 0, .int .i64 1, .int .i64 0, .int .i64 560, .int .i64 1, .int .i64 1, .int .i64 0, .int .i64 700, .int .i64 0, .int .i64 1] 70 (0, 0))), x.val.cell? ⟨w.heap.size, 5, none⟩ = some (.int .i64 530) := fun x => box_cells x.property.2 5
  have n6 : ∀ x : Meets (fun w' => Below w.heap.size w w' ∧ w'.heap[w.heap.size]? = some (.cells #[.int .i64 0, .int .i64 480, .int .i64 0, .int .i64 0, .int .i64 0, .int .i64 530, .int .i64 0, .int .i64 1, .int .i64 0, .int .i64 560, .int .i64 1, .int .i64 1, .int .i64 0, .int .i64 700, .int .i64 0, .int .i64 1] 70 (0, 0))), x.val.cell? ⟨w.heap.size, 6, none⟩ = some (.int .i64 0) := fun x => box_cells x.property.2 6
  have n7 : ∀ x : Meets (fun w' => Below w.heap.size w w' ∧ w'.heap[w.heap.size]? = some (.cells #[.int .i64 0, .int .i64 480, .int .i64 0, .int .i64 0, .int .i64 0, .int .i64 530, .int .i64 0, .int .i64 1, .int .i64 0, .int .i64 560, .int .i64 1, .int .i64 1, .int .i64 0, .int .i64 700, .int .i64 0, .int .i64 1] 70 (0, 0))), x.val.cell? ⟨w.heap.size, 7, none⟩ = some (.int .i64 1) := fun x => box_cells x.property.2 7
  simp only [pick, List.filterMap_cons, List.filterMap_nil, List.getElem?_cons_zero, List.getElem?_cons_succ]
  repeat (change wpQuiet _ _ _ _ (_ :: _) _; go_big_quiet_step (fail))
  refine wpQuiet_nil ?_
  clear n4 n5 n6 n7 hne
  refine wpAnyF_one (i := 4) (by kernel_rfl) rfl (fun K hK => ?_)
  go_simp
  refine (rode_any _).mono ?_
  rintro e w2 ⟨rfl, rfl⟩
  have hs2 : Below w.heap.size w (w1.alloc (.cells #[.int .i64 0, .int .i64 480, .int .i64 0, .int .i64 0, .int .i64 0, .int .i64 530, .int .i64 0, .int .i64 1, .int .i64 0, .int .i64 560, .int .i64 1, .int .i64 1, .int .i64 0, .int .i64 700, .int .i64 0, .int .i64 1] 70)) ∧ (w1.alloc (.cells #[.int .i64 0, .int .i64 480, .int .i64 0, .int .i64 0, .int .i64 0, .int .i64 530, .int .i64 0, .int .i64 1, .int .i64 0, .int .i64 560, .int .i64 1, .int .i64 1, .int .i64 0, .int .i64 700, .int .i64 0, .int .i64 1] 70)).heap[w.heap.size]? = some (.cells #[.int .i64 0, .int .i64 480, .int .i64 0, .int .i64 0, .int .i64 0, .int .i64 530, .int .i64 0, .int .i64 1, .int .i64 0, .int .i64 560, .int .i64 1, .int .i64 1, .int .i64 0, .int .i64 700, .int .i64 0, .int .i64 1] 70 (0, 0)) := ⟨hs1.1.alloc hs1.1.size _, heap_in hs1.2⟩
  have hs3 := heap_alloc_new w1 (.cells #[.int .i64 0, .int .i64 480, .int .i64 0, .int .i64 0, .int .i64 0, .int .i64 530, .int .i64 0, .int .i64 1, .int .i64 0, .int .i64 560, .int .i64 1, .int .i64 1, .int .i64 0, .int .i64 700, .int .i64 0, .int .i64 1] 70)
  refine hK.out _ _ (fun _ => hs2) ?_
  clear hK K
  generalize w1.alloc (.cells #[.int .i64 0, .int .i64 480, .int .i64 0, .int .i64 0, .int .i64 0, .int .i64 530, .int .i64 0, .int .i64 1, .int .i64 0, .int .i64 560, .int .i64 1, .int .i64 1, .int .i64 0, .int .i64 700, .int .i64 0, .int .i64 1] 70) = w2 at *
  have hq := box_cells hs3
  have m0 := hq 0
  have m1 := hq 1
  have m2 := hq 2
  have m3 := hq 3
  simp only [List.getElem?_toArray, List.getElem?_cons_zero, List.getElem?_cons_succ] at m0 m1 m2 m3
  clear hq
  refine wpAnyF_one (i := 5) (by kernel_rfl) rfl (fun K hK => ?_)
  go_simp
  refine hK.out _ _ (fun _ => hs2) ?_
  clear hK K
  refine wpAnyF_one (i := 6) (by kernel_rfl) rfl (fun K hK => ?_)
  go_simp
  refine hK.out _ _ (fun _ => hs2) ?_
  clear hK K
  refine wpAnyF_one (i := 7) (by kernel_rfl) rfl (fun K hK => ?_)
  go_simp
  refine hK.out _ _ (fun _ => hs2) ?_
  clear hK K
  refine wpAnyF_one (i := 8) (by kernel_rfl) rfl (fun K hK => ?_)
  go_simp
  have hs4 : Below w.heap.size w (w2.alloc (.cells #[.int .i64 0, .int .i64 2, .int .i64 3, .int .i64 0, .int .i64 530, .int .i64 0, .int .i64 1, .int .i64 0, .int .i64 0, .int .i64 3, .int .i64 0, .int .i64 480, .int .i64 0, .int .i64 0] 91)) ∧ (w2.alloc (.cells #[.int .i64 0, .int .i64 2, .int .i64 3, .int .i64 0, .int .i64 530, .int .i64 0, .int .i64 1, .int .i64 0, .int .i64 0, .int .i64 3, .int .i64 0, .int .i64 480, .int .i64 0, .int .i64 0] 91)).heap[w.heap.size]? = some (.cells #[.int .i64 0, .int .i64 480, .int .i64 0, .int .i64 0, .int .i64 0, .int .i64 530, .int .i64 0, .int .i64 1, .int .i64 0, .int .i64 560, .int .i64 1, .int .i64 1, .int .i64 0, .int .i64 700, .int .i64 0, .int .i64 1] 70 (0, 0)) := ⟨hs2.1.alloc hs2.1.size _, heap_in hs2.2⟩
  have hs5 := heap_alloc_new w2 (.cells #[.int .i64 0, .int .i64 2, .int .i64 3, .int .i64 0, .int .i64 530, .int .i64 0, .int .i64 1, .int .i64 0, .int .i64 0, .int .i64 3, .int .i64 0, .int .i64 480, .int .i64 0, .int .i64 0] 91)
  have hs6 : w.heap.size ≤ w2.heap.size := hs2.1.size
  refine hK.out _ _ (fun _ => hs4) ?_
  clear hK K
  generalize w2.alloc (.cells #[.int .i64 0, .int .i64 2, .int .i64 3, .int .i64 0, .int .i64 530, .int .i64 0, .int .i64 1, .int .i64 0, .int .i64 0, .int .i64 3, .int .i64 0, .int .i64 480, .int .i64 0, .int .i64 0] 91) = w3 at *
  refine wpAnyF_one (i := 9) (by kernel_rfl) rfl (fun K hK => ?_)
  go_simp
  refine hK.out _ _ (fun _ => hs4) ?_
  clear hK K m0 m1 m2 m3
  refine wpAnyF_done (by kernel_rfl) ?_ _
  refine NoPanic.normal ?_
  go_wp2
  go_ret
  exact ⟨w2.heap.size, rfl, hs5, hs4.1, hs6⟩
/-! ### A made slice of rides, of taps: all nought -/
theorem info_rdF : (Try.prog.info? 70).map (fun i => (i.zero, i.size, i.bytes)) = some (some (.agg #[.int .i64 0, .int .i64 0, .int .i64 0, .int .i64 0]), 4, 32) := by kernel_rfl
theorem info_tpF : (Try.prog.info? 91).map (fun i => (i.zero, i.size, i.bytes)) = some (some (.agg #[.int .i64 0, .int .i64 0, .int .i64 0, .int .i64 0, .int .i64 0, .int .i64 0, .int .i64 0]), 7, 56) := by kernel_rfl
def noRd : List Rd := List.replicate 13 ⟨0, 0, 0, 0⟩
def noTp : List Tp := List.replicate 41 ⟨0, 0, 0, ⟨0, 0, 0, 0⟩⟩
theorem make_rds (V : World) : (Instr.makeSlice 37 (.int .i64 13) (.int .i64 13)).run Try.prog V = .ok (.slice (some ⟨V.heap.size, 0, none⟩) 13 13) (V.alloc (.cells (noRd.flatMap rdC).toArray 70)) := by
  obtain ⟨i0, hi0, hz0, hz1, hz2⟩ := info_parts info_rdF
  have h := run_makeSlice (P := Try.prog) (w := V) 37 70 i0 _ Try.underlying37 hi0 hz0 .i64 .i64 13 13 (by omega) (by omega) (by rw [hz1]; decide) (by rw [hz2]; decide) (by decide)
  rw [hz1] at h
  exact h.trans (by kernel_rfl)
theorem make_tps (V : World) : (Instr.makeSlice 50 (.int .i64 41) (.int .i64 41)).run Try.prog V = .ok (.slice (some ⟨V.heap.size, 0, none⟩) 41 41) (V.alloc (.cells (noTp.flatMap tpC).toArray 91)) := by
  obtain ⟨i0, hi0, hz0, hz1, hz2⟩ := info_parts info_tpF
  have h := run_makeSlice (P := Try.prog) (w := V) 50 91 i0 _ Try.underlying50 hi0 hz0 .i64 .i64 41 41 (by omega) (by omega) (by rw [hz1]; decide) (by rw [hz2]; decide) (by decide)
  rw [hz1] at h
  exact h.trans (by kernel_rfl)
/-! ### What they come to -/
def threeL : List Rd := [⟨0, 480, 0, 0⟩, ⟨1, 480, 2, 2⟩, ⟨2, 480, 0, 2⟩]
def manyL (k : Nat) : List Rd := (List.range k).map fun (i : Nat) => ⟨0, (i : Int), 0, 0⟩
def fullL (k : Nat) : List Tp := (List.range k).map fun (i : Nat) => ⟨0, (i : Int), 0, ⟨0, (i : Int), 0, 0⟩⟩
def clashL : List Tp := tappedL ++ [⟨0, 0, 4, ⟨0, 480, 0, 0⟩⟩]
def oddT : Tar := ⟨3, [2, 3, 5], [4, 6], [15, 20, 30], 60⟩
def dearT : Tar := ⟨3, [2, 3, 5], [4, 6, 8], [15, 20, 10001], 60⟩
def noT : Tar := ⟨0, [], [], [], 0⟩
theorem val_three : ridesF cityT threeL = 0 ∧ (chargeT cityT (onceL threeL)).1 = 9 := by decide +kernel
theorem val_miss : tapsF cityT tappedL [4, 1, 0, 0] = 0 ∧ missLL tappedL [4, 1, 0, 0] = [[1, 3], [0], [], []] := by decide +kernel
theorem val_dues : tapsF cityT (tappedL ++ tappedL) [4, 1, 0, 0] = 0 ∧ duesL cityT (tappedL ++ tappedL) = [0, 0, 0, 3, 0, 0, 0, 0, 0, 0] := by decide +kernel
theorem val_p1 : proveB cityT (rodeL.take 2) [⟨0, 0, 1, 0, 480⟩] 3 = true := by decide +kernel
theorem val_p2 : proveB cityT (rodeL.take 2) [⟨0, 0, 1, 0, 480⟩] 2 = false := by decide +kernel
theorem val_p3 : proveB cityT (rodeL.take 2) [⟨0, 0, 1, 0, 479⟩] 3 = false := by decide +kernel
theorem val_p4 : proveB cityT [] [] 0 = true := by decide +kernel
theorem val_e : ridesF cityT [⟨0, 0, 0, 3⟩] = 2 := by decide +kernel
theorem val_f : ridesF cityT (manyL 13) = 3 := by decide +kernel
theorem val_g : ridesF cityT noRd = 0 := by decide +kernel
theorem val_h : tapsF cityT noTp [] = 3 := by decide +kernel
theorem val_i : tapsF cityT tappedL [4, 1, 0] = 1 := by decide +kernel
theorem val_j : tapsF cityT tappedL [2, 1, 0, 0] = 2 := by decide +kernel
theorem val_k : tapsF cityT clashL [4, 1, 0, 0] = 6 := by decide +kernel
theorem val_l : tapsF cityT (fullL 13) [13, 0, 0, 0] = 3 := by decide +kernel
theorem val_odd : faultT oddT = 1 := by decide +kernel
theorem val_dear : faultT dearT = 1 := by decide +kernel
theorem val_no : faultT noT = 1 := by decide +kernel
theorem manyL_succ (k : Nat) : manyL (k + 1) = manyL k ++ [⟨0, (k : Int), 0, 0⟩] := by
  unfold manyL
  rw [List.range_succ, List.map_append]
  rfl
theorem fullL_succ (k : Nat) : fullL (k + 1) = fullL k ++ [⟨0, (k : Int), 0, ⟨0, (k : Int), 0, 0⟩⟩] := by
  unfold fullL
  rw [List.range_succ, List.map_append]
  rfl
theorem manyL_len (k : Nat) : (manyL k).length = k := by simp [manyL]
theorem fullL_len (k : Nat) : (fullL k).length = k := by simp [fullL]
theorem manyL_get {k : Nat} (h : k < 13) : (manyL 13)[k]? = some ⟨0, (k : Int), 0, 0⟩ := by
  unfold manyL
  rw [List.getElem?_map, List.getElem?_range h]
  rfl
end Go.Proofs.Ytmbkpfkkohpnkaa
