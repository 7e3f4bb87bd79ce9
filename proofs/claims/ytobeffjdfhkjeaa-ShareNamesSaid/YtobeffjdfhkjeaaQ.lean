import Derived.Test.YtobeffjdfhkjeaaJ
import Derived.Test.YtobeffjdfhkjeaaW4
import Derived.Laws.ResultCell
import Derived.Laws.EntriesVeiled
set_option linter.unusedVariables false
set_option linter.unusedSimpArgs false
namespace Go.Proofs.Ytobeffjdfhkjeaa
open Go Go.Proofs Go.RowKit

set_option maxRecDepth 100000 in
theorem look_any (s : Strat) (u : Value) (w : World) (hu : NumsAt .i64 w u s.seen) (hok : SumOk s.seen) (h0 : -1000000 ≤ s.hi) (h1 : s.hi ≤ 1000000) :
    Calls Try.prog 60 #[.agg #[.int .i64 s.coins, .int .i64 s.lo, .int .i64 s.hi, u]] w
      (Gives w (.agg #[.int .i64 s.coins, .int .i64 s.lo, .int .i64 s.hi, u, .bool ((s.seen.length : Int) == 1), .int .i64 (s.hi - sumL s.seen)])) := by
  have hbs := hok s.seen.length (Nat.le_refl _)
  rw [List.take_length] at hbs
  obtain ⟨A, c, rfl, hc, hm⟩ := hu.form
  have hb1 : Below w.heap.size w ((w.alloc (.cells #[.int .i64 s.coins, .int .i64 s.lo, .int .i64 s.hi, .slice A s.seen.length c] 86)).alloc (.cells #[.int .i64 0, .int .i64 0, .int .i64 0, .slice none 0 0, .bool false, .int .i64 0] 95)) :=
    ((Below.refl _ _).alloc (Nat.le_refl _) _).alloc (by simp) _
  go_enter Try.func60, Try.ntmps60
  go_wp2_with fail
  refine wp_region_noPanic ?_
  refine wp_region_pick [0, 1, 2, 3, 4, 5, 6, 7, 8, 9] [10, 11, 12, 13] (fun _ => true) (fun w' => w'.cell? ⟨w.heap.size, 0, none⟩ = some (.int .i64 s.coins) ∧ w'.cell? ⟨w.heap.size, 1, none⟩ = some (.int .i64 s.lo) ∧
      w'.cell? ⟨w.heap.size, 2, none⟩ = some (.int .i64 s.hi) ∧ w'.cell? ⟨w.heap.size, 3, none⟩ = some (.slice A s.seen.length c)) (by kernel_rfl) (by kernel_rfl) (fun _ _ _ _ _ h => h)
    (by refine ⟨?_, ?_, ?_, ?_⟩ <;> simp [go_sem]) (fun hne => ?_)
  have m0 := fun x : Meets (fun w' => w'.cell? ⟨w.heap.size, 0, none⟩ = some (.int .i64 s.coins) ∧ w'.cell? ⟨w.heap.size, 1, none⟩ = some (.int .i64 s.lo) ∧
      w'.cell? ⟨w.heap.size, 2, none⟩ = some (.int .i64 s.hi) ∧ w'.cell? ⟨w.heap.size, 3, none⟩ = some (.slice A s.seen.length c)) => x.property
  have n0 := fun x => (m0 x).1
  have n1 := fun x => (m0 x).2.1
  have n2 := fun x => (m0 x).2.2.1
  have n3 := fun x => (m0 x).2.2.2
  clear m0
  simp only [pick, pickN, List.filterMap_cons, List.filterMap_nil, List.getElem?_cons_zero, List.getElem?_cons_succ, Option.map_some]
  repeat (change wpQuiet _ _ _ _ (_ :: _) _; go_big_quiet_step (fail))
  refine wpQuiet_nil ?_
  clear n0 n1 n2 n3 hne
  have hwr : IntKind.i64.wrap (s.hi - sumL s.seen) = s.hi - sumL s.seen := IntWalk.i64_in _ (by omega)
  refine wpSeqP_step (fun K hK => ?_)
  go_simp
  refine (sum_same _ s.seen _ (hu.below hb1.drew) hok).mono ?_
  rintro e w1 ⟨rfl, rfl⟩
  refine hK.out _ _ (fun _ => ⟨by simp [go_sem], by simp [go_sem], by simp [go_sem], by simp [go_sem]⟩) ?_
  clear hK K
  refine wpSeqP_step (fun K hK => ?_)
  go_simp
  refine hK.out _ _ (fun _ => ⟨by simp [go_sem], by simp [go_sem], by simp [go_sem], by simp [go_sem]⟩) ?_
  clear hK K
  refine wpSeqP_step (fun K hK => ?_)
  go_simp
  refine hK.out _ _ (fun _ => ⟨by simp [go_sem], by simp [go_sem], by simp [go_sem], by simp [go_sem]⟩) ?_
  clear hK K
  refine wpSeqP_step (fun K hK => ?_)
  go_simp
  refine hK.out _ _ (fun _ => ⟨by simp [go_sem], by simp [go_sem], by simp [go_sem], by simp [go_sem]⟩) ?_
  clear hK K
  refine wpSeqP_nil ?_
  refine NoPanic.normal ?_
  go_wp2
  refine bodyPost_ret (v := .agg #[.int .i64 s.coins, .int .i64 s.lo, .int .i64 s.hi, .slice A s.seen.length c, .bool ((s.seen.length : Int) == 1), .int .i64 (s.hi - sumL s.seen)]) (by simp [results, Try.results60, go_sem]) rfl ⟨rfl, ?_⟩
  exact (((Below.refl _ _).alloc (Nat.le_refl _) _).alloc (by simp) _).drew

/-- more -/
theorem more_any (a lo hi un n : Int) (u : Value) (al : Bool) (A : Option Addr) (l c : Nat) (w : World) (hu : u = .slice A l c) (h1 : -1000000 ≤ lo) (h2 : lo ≤ 1000000) (h3 : -1000000 ≤ hi) (h4 : hi ≤ 1000000) (h5 : -1000000 ≤ un) (h6 : un ≤ 1000000) (h7 : -1000000 ≤ n) (h8 : n ≤ 1000000) :
    Calls Try.prog 83 #[.agg #[.int .i64 a, .int .i64 lo, .int .i64 hi, u, .bool al, .int .i64 un], .int .i64 n] w
      (Gives w (.agg #[.int .i64 a, .int .i64 (max lo (hi - un + n)), .int .i64 hi, u, .bool al, .int .i64 (un - n)])) := by
  subst hu
  by_cases hx : lo ≤ hi - un + n
  · have e : max lo (hi - un + n) = hi - un + n := by omega
    rw [e]; clear e
    go_enter Try.func83, Try.ntmps83
    go_wp2
    all_goals
      refine bodyPost_ret (v := .agg #[.int .i64 a, .int .i64 (hi - un + n), .int .i64 hi, .slice A l c, .bool al, .int .i64 (un - n)]) (by simp [results, Try.results83, go_sem]; try omega) rfl ⟨rfl, ?_⟩
      exact ((Below.refl _ _).alloc (Nat.le_refl _) _).alloc (by simp) _
  · have e : max lo (hi - un + n) = lo := by omega
    rw [e]; clear e
    go_enter Try.func83, Try.ntmps83
    go_wp2
    all_goals
      refine bodyPost_ret (v := .agg #[.int .i64 a, .int .i64 lo, .int .i64 hi, .slice A l c, .bool al, .int .i64 (un - n)]) (by simp [results, Try.results83, go_sem]; try omega) rfl ⟨rfl, ?_⟩
      exact ((Below.refl _ _).alloc (Nat.le_refl _) _).alloc (by simp) _

def leastI (al : Bool) (a lo hi x : Int) : Int := if al then (if 0 < lo then a else 0) else getI a x hi
def mostI (a hi un x : Int) : Int := getI a (x + un) hi

theorem least_any (a lo hi un x : Int) (u : Value) (al : Bool) (A : Option Addr) (l c : Nat) (w : World) (hu : u = .slice A l c) (h0 : 0 ≤ hi) (h1 : 0 ≤ a) (h2 : a ≤ 10000000) (h3 : 0 ≤ x) (h4 : x ≤ 1000000) :
    Calls Try.prog 105 #[.agg #[.int .i64 a, .int .i64 lo, .int .i64 hi, u, .bool al, .int .i64 un], .int .i64 x] w (Gives w (.int .i64 (leastI al a lo hi x))) := by
  subst hu
  cases al
  · go_enter Try.func105, Try.ntmps105
    go_wp2_with (go_at_call 58; refine (part_same _ _ _ _ h0 h1 h2 h3 h4).mono ?_; rintro e w' ⟨rfl, rfl⟩)
    go_ret
    exact ⟨rfl, (Below.refl _ _).alloc (Nat.le_refl _) _⟩
  · by_cases hl : 0 < lo
    · have e : leastI true a lo hi x = a := by simp [leastI, hl]
      rw [e]; clear e
      go_enter Try.func105, Try.ntmps105
      go_wp2
      go_ret
      exact ⟨rfl, (Below.refl _ _).alloc (Nat.le_refl _) _⟩
    · have e : leastI true a lo hi x = 0 := by simp [leastI, hl]
      rw [e]; clear e
      go_enter Try.func105, Try.ntmps105
      go_wp2
      go_ret
      exact ⟨rfl, (Below.refl _ _).alloc (Nat.le_refl _) _⟩

theorem most_any (a lo hi un x : Int) (u : Value) (al : Bool) (A : Option Addr) (l c : Nat) (w : World) (hu : u = .slice A l c) (h0 : 0 ≤ hi) (h1 : 0 ≤ a) (h2 : a ≤ 10000000) (h3 : 0 ≤ x + un) (h4 : x + un ≤ 1000000) :
    Calls Try.prog 106 #[.agg #[.int .i64 a, .int .i64 lo, .int .i64 hi, u, .bool al, .int .i64 un], .int .i64 x] w (Gives w (.int .i64 (mostI a hi un x))) := by
  subst hu
  go_enter Try.func106, Try.ntmps106
  go_wp2_with (go_at_call 58; refine (part_same _ _ _ _ h0 h1 h2 h3 h4).mono ?_; rintro e w' ⟨rfl, rfl⟩)
  go_ret
  exact ⟨rfl, (Below.refl _ _).alloc (Nat.le_refl _) _⟩

theorem ends_any (w : World) : Calls Try.prog 92 #[] w (Gives w (.agg #[.func (.func 105) #[] #[], .func (.func 106) #[] #[]])) := by
  go_enter Try.func92, Try.ntmps92
  go_wp2
  refine bodyPost_ret (v := .agg #[.func (.func 105) #[] #[], .func (.func 106) #[] #[]]) (by simp [results, Try.results92, go_sem]) rfl ⟨rfl, ?_⟩
  exact (Below.refl _ _).alloc (Nat.le_refl _) _

theorem width_any (lo hi : Int) (w : World) (h1 : -1000000000000000 ≤ lo) (h2 : lo ≤ 1000000000000000) (h3 : -1000000000000000 ≤ hi) (h4 : hi ≤ 1000000000000000) :
    Calls Try.prog 67 #[.agg #[.int .i64 lo, .int .i64 hi]] w (Gives w (.int .i64 (hi - lo))) := by
  go_enter Try.func67, Try.ntmps67
  go_wp2
  go_ret
  exact ⟨rfl, (Below.refl _ _).alloc (Nat.le_refl _) _⟩
end Go.Proofs.Ytobeffjdfhkjeaa
