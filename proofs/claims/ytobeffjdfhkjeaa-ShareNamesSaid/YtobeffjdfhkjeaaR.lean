import Derived.Test.YtobeffjdfhkjeaaQ
set_option linter.unusedVariables false
set_option linter.unusedSimpArgs false
namespace Go.Proofs.Ytobeffjdfhkjeaa
open Go Go.Proofs Go.RowKit

set_option maxRecDepth 100000 in
set_option maxHeartbeats 800000 in
theorem span_any (a lo hi un x : Int) (u : Value) (al : Bool) (A : Option Addr) (l c : Nat) (w : World) (hu : u = .slice A l c) (h0 : 0 ≤ hi) (h1 : 0 ≤ a) (h2 : a ≤ 10000000) (h3 : 0 ≤ x) (h4 : x ≤ 1000000) (h5 : 0 ≤ x + un) (h6 : x + un ≤ 1000000) :
    Calls Try.prog 82 #[.agg #[.int .i64 a, .int .i64 lo, .int .i64 hi, u, .bool al, .int .i64 un], .int .i64 x] w (Gives w (.agg #[.int .i64 (leastI al a lo hi x), .int .i64 (mostI a hi un x)])) := by
  subst hu
  have hb0 : Below w.heap.size w ((w.alloc (.cells #[.int .i64 a, .int .i64 lo, .int .i64 hi, .slice A l c, .bool al, .int .i64 un] 95)).alloc (.cells #[.int .i64 0, .int .i64 0] 52)) :=
    ((Below.refl _ _).alloc (Nat.le_refl _) _).alloc (by simp) _
  go_enter Try.func82, Try.ntmps82
  go_wp2_with (go_at_call 92; refine (ends_any _).mono ?_; rintro e w1 ⟨rfl, hb1⟩)
  have hw1 : Below w.heap.size w w1 := hb0.trans (hb1.mono hb0.size)
  have hs1 : w.heap.size + 2 ≤ w1.heap.size := by have := hb1.size; simpa using this
  have k0 : w1.cell? ⟨w.heap.size, 0, none⟩ = some (.int .i64 a) := cell_below hb1 (by simp [go_sem])
  have k1 : w1.cell? ⟨w.heap.size, 1, none⟩ = some (.int .i64 lo) := cell_below hb1 (by simp [go_sem])
  have k2 : w1.cell? ⟨w.heap.size, 2, none⟩ = some (.int .i64 hi) := cell_below hb1 (by simp [go_sem])
  have k3 : w1.cell? ⟨w.heap.size, 3, none⟩ = some (.slice A l c) := cell_below hb1 (by simp [go_sem])
  have k4 : w1.cell? ⟨w.heap.size, 4, none⟩ = some (.bool al) := cell_below hb1 (by simp [go_sem])
  have k5 : w1.cell? ⟨w.heap.size, 5, none⟩ = some (.int .i64 un) := cell_below hb1 (by simp [go_sem])
  have r0 : w1.cell? ⟨w.heap.size + 1, 0, none⟩ = some (.int .i64 0) := cell_below hb1 (by simp [go_sem])
  have r1 : w1.cell? ⟨w.heap.size + 1, 1, none⟩ = some (.int .i64 0) := cell_below hb1 (by simp [go_sem])
  have f0 : w1.frozen? ⟨w.heap.size + 1, 0, none⟩ = false := by rw [hb1.frozen (p := ⟨w.heap.size + 1, 0, none⟩) (by simp)]; simp [go_sem]
  have f1 : w1.frozen? ⟨w.heap.size + 1, 1, none⟩ = false := by rw [hb1.frozen (p := ⟨w.heap.size + 1, 1, none⟩) (by simp)]; simp [go_sem]
  clear hb0 hb1
  go_wp2_with fail
  refine wp_name (fun W => Below w1.heap.size w1 W ∧ W.cell? ⟨w1.heap.size, 0, none⟩ = some (.func (.func 105) #[] #[]) ∧ W.cell? ⟨w1.heap.size, 1, none⟩ = some (.func (.func 106) #[] #[])) ?_ (fun W hF => ?_)
  · exact ⟨(Below.refl _ _).alloc (Nat.le_refl _) _, by simp [go_sem], by simp [go_sem]⟩
  obtain ⟨hW, g0, g1⟩ := hF
  have SW := And.intro (cell_below hW k0) (And.intro (cell_below hW k1) (And.intro (cell_below hW k2) (And.intro (cell_below hW k3) (And.intro (cell_below hW k4) (And.intro (cell_below hW k5) (And.intro g0 g1))))))
  refine wp_region_noPanic ?_
  refine wp_region_pick [0, 1, 2, 3, 4, 6, 7, 8, 9, 10] [5, 11, 12, 13] (fun j => j != 13) (fun w' => w'.cell? ⟨w.heap.size, 0, none⟩ = some (.int .i64 a) ∧ w'.cell? ⟨w.heap.size, 1, none⟩ = some (.int .i64 lo) ∧ w'.cell? ⟨w.heap.size, 2, none⟩ = some (.int .i64 hi) ∧ w'.cell? ⟨w.heap.size, 3, none⟩ = some (.slice A l c) ∧
      w'.cell? ⟨w.heap.size, 4, none⟩ = some (.bool al) ∧ w'.cell? ⟨w.heap.size, 5, none⟩ = some (.int .i64 un) ∧ w'.cell? ⟨w1.heap.size, 0, none⟩ = some (.func (.func 105) #[] #[]) ∧ w'.cell? ⟨w1.heap.size, 1, none⟩ = some (.func (.func 106) #[] #[])) (by kernel_rfl) (by kernel_rfl) (fun _ _ _ _ _ h => h) SW (fun hne => ?_)
  have m0 := fun x : Meets (fun w' => w'.cell? ⟨w.heap.size, 0, none⟩ = some (.int .i64 a) ∧ w'.cell? ⟨w.heap.size, 1, none⟩ = some (.int .i64 lo) ∧ w'.cell? ⟨w.heap.size, 2, none⟩ = some (.int .i64 hi) ∧ w'.cell? ⟨w.heap.size, 3, none⟩ = some (.slice A l c) ∧
      w'.cell? ⟨w.heap.size, 4, none⟩ = some (.bool al) ∧ w'.cell? ⟨w.heap.size, 5, none⟩ = some (.int .i64 un) ∧ w'.cell? ⟨w1.heap.size, 0, none⟩ = some (.func (.func 105) #[] #[]) ∧ w'.cell? ⟨w1.heap.size, 1, none⟩ = some (.func (.func 106) #[] #[])) => x.property
  have n0 := fun x => (m0 x).1
  have n1 := fun x => (m0 x).2.1
  have n2 := fun x => (m0 x).2.2.1
  have n3 := fun x => (m0 x).2.2.2.1
  have n4 := fun x => (m0 x).2.2.2.2.1
  have n5 := fun x => (m0 x).2.2.2.2.2.1
  have n6 := fun x => (m0 x).2.2.2.2.2.2.1
  have n7 := fun x => (m0 x).2.2.2.2.2.2.2
  clear m0
  simp only [pick, pickN, List.filterMap_cons, List.filterMap_nil, List.getElem?_cons_zero, List.getElem?_cons_succ, Option.map_some]
  repeat (change wpQuiet _ _ _ _ (_ :: _) _; go_big_quiet_step (fail))
  refine wpQuiet_nil ?_
  clear n0 n1 n2 n3 n4 n5 n6 n7 hne
  refine wpSeqP_step (fun K hK => ?_)
  go_simp
  refine (least_any a lo hi un x _ al A l c _ rfl h0 h1 h2 h3 h4).mono ?_
  rintro e w2 ⟨rfl, hb2'⟩
  have hb2 : Below W.heap.size W w2 := (Below.refl _ _).drew.trans hb2'
  refine hK.out _ _ (fun _ => ⟨cell_below hb2 SW.1, cell_below hb2 SW.2.1, cell_below hb2 SW.2.2.1, cell_below hb2 SW.2.2.2.1, cell_below hb2 SW.2.2.2.2.1, cell_below hb2 SW.2.2.2.2.2.1, cell_below hb2 SW.2.2.2.2.2.2.1, cell_below hb2 SW.2.2.2.2.2.2.2⟩) ?_
  clear hK K
  refine wpSeqP_step (fun K hK => ?_)
  go_simp
  refine (most_any a lo hi un x _ al A l c _ rfl h0 h1 h2 h5 h6).mono ?_
  rintro e w3 ⟨rfl, hb3'⟩
  have hb3 : Below W.heap.size W w3 := hb2.trans (hb3'.mono hb2.size)
  have S3 := And.intro (cell_below hb3 SW.1) (And.intro (cell_below hb3 SW.2.1) (And.intro (cell_below hb3 SW.2.2.1) (And.intro (cell_below hb3 SW.2.2.2.1) (And.intro (cell_below hb3 SW.2.2.2.2.1) (And.intro (cell_below hb3 SW.2.2.2.2.2.1) (And.intro (cell_below hb3 SW.2.2.2.2.2.2.1) (cell_below hb3 SW.2.2.2.2.2.2.2)))))))
  refine hK.out _ _ (fun _ => S3) ?_
  clear hK K
  refine wpSeqP_step (fun K hK => ?_)
  go_simp
  refine hK.out _ _ (fun _ => S3) ?_
  clear hK K
  have hw3 : Below w1.heap.size w1 w3 := hW.trans (hb3.mono hW.size)
  have q0 := cell_below hw3 r0
  have q1 := cell_below hw3 r1
  have p0 : w3.frozen? ⟨w.heap.size + 1, 0, none⟩ = false := by rw [hw3.frozen (p := ⟨w.heap.size + 1, 0, none⟩) (by simp only; omega)]; exact f0
  have p1 : w3.frozen? ⟨w.heap.size + 1, 1, none⟩ = false := by rw [hw3.frozen (p := ⟨w.heap.size + 1, 1, none⟩) (by simp only; omega)]; exact f1
  refine wpSeqP_step (fun K hK => ?_)
  go_simp
  refine hK.out _ _ (fun h => by cases h) ?_
  clear hK K
  refine wpSeqP_nil ?_
  refine NoPanic.normal ?_
  go_wp2
  refine bodyPost_ret (v := .agg #[.int .i64 (leastI al a lo hi x), .int .i64 (mostI a hi un x)]) (by simp [results, Try.results82, go_sem, q0, q1]) rfl ⟨rfl, ?_⟩
  exact ((hw1.trans (hw3.mono hw1.size)).setCell (p := ⟨w.heap.size + 1, 0, none⟩) (by simp only; omega) _).setCell (p := ⟨w.heap.size + 1, 1, none⟩) (by simp only; omega) _
end Go.Proofs.Ytobeffjdfhkjeaa
