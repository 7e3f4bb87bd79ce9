import Derived.Test.YtobeffjdfhkjeaaV
set_option linter.unusedVariables false
set_option linter.unusedSimpArgs false
namespace Go.Proofs.Ytobeffjdfhkjeaa
open Go Go.Proofs Go.RowKit

def widthW (al : Bool) (a lo hi un x : Int) : Int := mostI a hi un x - leastI al a lo hi x
def okW (s : Strat) (coins more x : Int) : Bool :=
  decide (widthW ((s.seen.length : Int) == 1) s.coins (max s.lo (s.hi - (s.hi - sumL s.seen) + more)) s.hi (s.hi - sumL s.seen - more) x ≤ coins)
def narrowB (s : Strat) (coins : Int) (more : Nat) : Bool := s.seen.all fun n => (List.range (more + 1)).all fun (k : Nat) => okW s coins more (n + k)

def SokP (s : Strat) (coins more : Int) (v : Value) : Prop := ∃ j x, j < 5 ∧ v = keyV j x ∧ okW s coins more x = true
theorem sok_mk {s : Strat} {coins more x : Int} {j : Nat} (hj : j < 5) (h : okW s coins more x = true) : SokP s coins more (keyV j x) := ⟨j, x, hj, rfl, h⟩
theorem sok_ok {s : Strat} {coins more x : Int} {j : Nat} (hj : j < 5) (h : SokP s coins more (keyV j x)) : okW s coins more x = true := by
  obtain ⟨j', x', hj', e, h⟩ := h
  rw [keyV_inj hj hj' e]
  exact h
theorem narrow_yes {s : Strat} {coins : Int} {more : Nat} (h : ∀ (j : Nat) (x : Int), j < s.seen.length → s.seen[j]? = some x → ∀ k : Nat, k ≤ more → okW s coins more (x + k) = true) : narrowB s coins more = true := by
  unfold narrowB
  exact all_of fun j x hj hx => List.all_eq_true.2 fun k hk => h j x hj hx k (by have := List.mem_range.1 hk; omega)
theorem narrow_no {s : Strat} {coins : Int} {more : Nat} {j k : Nat} {x : Int} (hx : s.seen[j]? = some x) (hk : k ≤ more) (h : okW s coins more (x + k) = false) : narrowB s coins more = false := by
  unfold narrowB
  exact not_all_of hx (List.all_eq_false.2 ⟨k, List.mem_range.2 (by omega), by simp [h]⟩)

set_option maxRecDepth 100000 in
set_option maxHeartbeats 3200000 in
theorem narrow_any (n : Int) (s : Strat) (u : Value) (coins : Int) (more : Nat) (w : World) (hu : NumsAt .i64 w u s.seen) (hn : n ≤ 5) (hs : stratB n s = true) (hm : (more : Int) ≤ s.hi - sumL s.seen) :
    Calls Try.prog 64 #[.agg #[.int .i64 s.coins, .int .i64 s.lo, .int .i64 s.hi, u], .int .i64 coins, .int .i64 more] w (Gives w (.bool (narrowB s coins more))) := by
  have hsn := strat_nums hs
  have hok := seen_ok hn hs
  have q2 := stratB_iff.1 hs
  have hb0 : Below w.heap.size w (w.alloc (.cells #[.int .i64 s.coins, .int .i64 s.lo, .int .i64 s.hi, u] 86)) := (Below.refl _ _).alloc (Nat.le_refl _) _
  obtain ⟨A, c, rfl, hc, hc'⟩ := hu.form
  have hmm := @run_makeMap Try.prog
  go_enter Try.func64, Try.ntmps64
  have hlo : 0 ≤ s.lo ∧ s.lo ≤ 400 := by omega
  have hl5 : s.seen.length ≤ 5 := by omega
  have hmr : 0 ≤ (more : Int) ∧ (more : Int) ≤ 400 := by omega
  have HS := Lib.hid hs
  clear q2 hs
  go_wp2_with (first
    | (go_at_call 60; refine (look_any s _ _ (hu.below hb0) hok (by omega) (by omega)).mono ?_; rintro e w1 ⟨rfl, hb1⟩; have hw1 := hb0.trans (hb1.mono hb0.size); have a3 : w1.cell? ⟨w.heap.size, 3, none⟩ = some (.slice A s.seen.length c) := cell_below hb1 (by simp [go_sem]))
    | (go_at_call 83; refine (more_any s.coins s.lo s.hi (s.hi - sumL s.seen) more _ ((s.seen.length : Int) == 1) A s.seen.length c _ rfl (by omega) (by omega) (by omega) (by omega) (by omega) (by omega) (by omega) (by omega)).mono ?_; rintro e w2 ⟨rfl, hb2⟩; have hw2 := hw1.trans (hb2.mono hw1.size); have b3 := cell_below hb2 a3; have hw2s := World.block_lt_of_cell? w2 _ b3))
  obtain ⟨lo', hlo'⟩ : ∃ y, max s.lo (s.hi - (s.hi - sumL s.seen) + more) = y := ⟨_, rfl⟩
  obtain ⟨un', hun'⟩ : ∃ y, s.hi - sumL s.seen - more = y := ⟨_, rfl⟩
  obtain ⟨al, hal⟩ : ∃ y, ((s.seen.length : Int) == 1) = y := ⟨_, rfl⟩
  have hOk : Hid (∀ x, okW s coins more x = decide (widthW al s.coins lo' s.hi un' x ≤ coins)) := fun x => by rw [okW, hlo', hun', hal]
  have hunb : 0 ≤ un' ∧ un' ≤ 400 := by omega
  rw [hlo', hun', hal]
  obtain ⟨W1, hW1⟩ : ∃ W1, w2.alloc (.cells #[.int .i64 s.coins, .int .i64 lo', .int .i64 s.hi, .slice A s.seen.length c, .bool al, .int .i64 un'] 95) = W1 := ⟨_, rfl⟩
  have hsz : W1.heap.size = w2.heap.size + 1 := by rw [← hW1]; simp
  have hwW : Below w.heap.size w W1 := by rw [← hW1]; exact hw2.alloc hw2.size _
  have l0 : W1.cell? ⟨w2.heap.size, 0, none⟩ = some (.int .i64 s.coins) := by rw [← hW1]; simp [go_sem]
  have l1 : W1.cell? ⟨w2.heap.size, 1, none⟩ = some (.int .i64 lo') := by rw [← hW1]; simp [go_sem]
  have l2 : W1.cell? ⟨w2.heap.size, 2, none⟩ = some (.int .i64 s.hi) := by rw [← hW1]; simp [go_sem]
  have l3 : W1.cell? ⟨w2.heap.size, 3, none⟩ = some (.slice A s.seen.length c) := by rw [← hW1]; simp [go_sem]
  have l4 : W1.cell? ⟨w2.heap.size, 4, none⟩ = some (.bool al) := by rw [← hW1]; simp [go_sem]
  have l5 : W1.cell? ⟨w2.heap.size, 5, none⟩ = some (.int .i64 un') := by rw [← hW1]; simp [go_sem]
  rw [hW1]
  rw [← hsz]
  have huW := hu.below hwW
  have hset := setAt_made W1 (SokP s coins more)
  have hbW : Below W1.heap.size W1 (W1.alloc (.map #[] 0)) := (Below.refl _ _).alloc (Nat.le_refl _) _
  have hlb : w2.heap.size < W1.heap.size := by omega
  clear hW1 hlo' hun' hal hm hb1 hb2 hw1 hb0 a3 b3 hsz
  go_loopw [21] (fun i wr => ∃ q : Nat, q ≤ s.seen.length ∧ i = .int .i64 q ∧ Below W1.heap.size W1 wr ∧ SetAt wr W1.heap.size (SokP s coins more) ∧
      ∀ (j : Nat) (x : Int), j < q → s.seen[j]? = some x → ∀ k : Nat, k ≤ more → okW s coins more (x + k) = true) (fun i wr => s.seen.length - (intOf i).toNat)
  case atStart => exact ⟨0, by omega, rfl, hbW, hset, by omega⟩
  case round =>
    obtain ⟨q, hq, rfl, hbr, hsr, hdone⟩ := hrel
    have HD := Lib.hid hdone
    clear hdone hset hbW
    by_cases hlt : q < s.seen.length
    · obtain ⟨b, o, x, rfl, hx, dx, hbx⟩ := huW.at_ hlt
      have hx4 := hsn.2.2.2 x (List.mem_of_getElem? hx)
      have HX := Lib.hid hx
      clear hx
      replace dx := cell_below hbr dx
      go_wp2
      go_loopw [28] (fun i wi => ∃ k : Nat, k ≤ more + 1 ∧ i = .int .i64 k ∧ Below W1.heap.size W1 wi ∧ SetAt wi W1.heap.size (SokP s coins more) ∧
          ∀ k' : Nat, k' < k → okW s coins more (x + k') = true) (fun i wi => more + 1 - (intOf i).toNat)
      case atStart => exact ⟨0, by omega, rfl, hbr, hsr, by omega⟩
      case round =>
        obtain ⟨k, hk, rfl, hbi, hsi, hki⟩ := hrel
        have HK := Lib.hid hki
        clear hki
        by_cases hlk : k ≤ more
        · have hxk : 0 ≤ x + k ∧ x + k ≤ 800 := by omega
          have hmi := hsi.lt
          have hkk : (k : Int) < (more : Int) + 1 := by omega
          have hxl := (s.seen.length : Int)
          have bd1 : 0 ≤ leastI al s.coins lo' s.hi (x + k) ∧ leastI al s.coins lo' s.hi (x + k) ≤ 10000000000000 := by
            unfold leastI
            split
            · split <;> omega
            · exact getI_bd hsn.1.1 hsn.1.2 (by omega) (by omega) hsn.2.1.1
          have bd2 : 0 ≤ mostI s.coins s.hi un' (x + k) ∧ mostI s.coins s.hi un' (x + k) ≤ 10000000000000 := getI_bd hsn.1.1 hsn.1.2 (by omega) (by omega) hsn.2.1.1
          have hnone : ∀ f : Int, f = mostI s.coins s.hi un' (x + k) - leastI al s.coins lo' s.hi (x + k) → okW s coins more (x + k) = decide (f ≤ coins) := fun f hf => by rw [hOk.out, hf, widthW]
          have HN := Lib.hid hnone
          clear hnone
          have hsi0 : 0 ≤ s.hi := hsn.2.1.1
          have hco0 := hsn.1.1
          have hco1 := hsn.1.2
          rcases (by omega : q = 0 ∨ q = 1 ∨ q = 2 ∨ q = 3 ∨ q = 4) with rfl | rfl | rfl | rfl | rfl
          · go_wp2_with (first
              | (at_lookup; refine wpList_look5 rfl _ _ rfl W1.heap.size _ rfl (SetAt.kept hsi (Below.heap_alloc _ _ _ hmi)) (keyV 0 (x + k)) rfl (keyV_of (by omega)) ?_; intro r hr; cases r)
              | (at_mapUpdate; refine wpList_store5 rfl _ _ _ rfl W1.heap.size _ rfl (SetAt.kept hsi (Below.heap_alloc _ _ _ hmi)) (keyV 0 (x + k)) rfl rfl (keyV_of (by omega)) ?_; intro w3 hs3 hg3;
                  have hb3 : Below W1.heap.size W1 w3 := (hbi.alloc (Nat.le_of_lt hmi) _).grown hg3 (Nat.le_trans (Nat.le_of_lt hmi) (by simp)) (fun k e => by cases e; exact Nat.le_refl _);
                  have k0 := (hb3.cell (p := ⟨w2.heap.size, 0, none⟩) hlb).trans l0; have k1 := (hb3.cell (p := ⟨w2.heap.size, 1, none⟩) hlb).trans l1; have k2 := (hb3.cell (p := ⟨w2.heap.size, 2, none⟩) hlb).trans l2;
                  have k3 := (hb3.cell (p := ⟨w2.heap.size, 3, none⟩) hlb).trans l3; have k4 := (hb3.cell (p := ⟨w2.heap.size, 4, none⟩) hlb).trans l4; have k5 := (hb3.cell (p := ⟨w2.heap.size, 5, none⟩) hlb).trans l5)
              | (go_at_call 82; refine (span_any s.coins lo' s.hi un' (x + k) _ al (some ⟨b, o, none⟩) s.seen.length c _ rfl hsi0 hco0 hco1 (by omega) (by omega) (by omega) (by omega)).mono ?_; rintro e w4 ⟨rfl, hb4⟩)
              | (go_at_call 67; refine (width_any _ _ _ (by omega) (by omega) (by omega) (by omega)).mono ?_; rintro e w5 ⟨rfl, hb5⟩))
            · have hb45 := hb3.trans ((hb4.trans (hb5.mono hb4.size)).mono hb3.size)
              have hno : okW s coins more (x + k) = false := by rw [HN.out _ rfl]; simp only [decide_eq_false_iff_not]; omega
              go_ret
              exact gives_bool (narrow_no HX.out hlk hno).symm (hwW.trans (hb45.mono hwW.size))
            · have hb45 := hb3.trans ((hb4.trans (hb5.mono hb4.size)).mono hb3.size)
              have hyes : okW s coins more (x + k) = true := by rw [HN.out _ rfl]; simp only [decide_eq_true_eq]; omega
              refine ⟨?_, ?_⟩
              · repeat apply Exists.intro
                refine ⟨?_, rfl⟩
                refine ⟨k + 1, by omega, rfl, hb45, (hs3.mono (fun v h => h.elim id (fun e => e ▸ sok_mk (by omega) hyes))).kept ((hb5.block _ (Nat.lt_of_lt_of_le hs3.lt hb4.size)).trans (hb4.block _ hs3.lt)), fun k' hk' => ?_⟩
                rcases (by omega : k' < k ∨ k' = k) with h | rfl
                · exact HK.out k' h
                · exact hyes
              · simp [intOf]; omega
            · have hyes := sok_ok (by omega) (hr trivial)
              refine ⟨⟨_, _, _, _, ⟨k + 1, by omega, rfl, hbi.alloc (Nat.le_of_lt hmi) _, hsi.kept (Below.heap_alloc _ _ _ hmi), fun k' hk' => ?_⟩, rfl, rfl, rfl, rfl⟩, ?_⟩
              · rcases (by omega : k' < k ∨ k' = k) with h | rfl
                · exact HK.out k' h
                · exact hyes
              · simp [intOf]; omega
          · go_wp2_with (first
              | (at_lookup; refine wpList_look5 rfl _ _ rfl W1.heap.size _ rfl (SetAt.kept hsi (Below.heap_alloc _ _ _ hmi)) (keyV 1 (x + k)) rfl (keyV_of (by omega)) ?_; intro r hr; cases r)
              | (at_mapUpdate; refine wpList_store5 rfl _ _ _ rfl W1.heap.size _ rfl (SetAt.kept hsi (Below.heap_alloc _ _ _ hmi)) (keyV 1 (x + k)) rfl rfl (keyV_of (by omega)) ?_; intro w3 hs3 hg3;
                  have hb3 : Below W1.heap.size W1 w3 := (hbi.alloc (Nat.le_of_lt hmi) _).grown hg3 (Nat.le_trans (Nat.le_of_lt hmi) (by simp)) (fun k e => by cases e; exact Nat.le_refl _);
                  have k0 := (hb3.cell (p := ⟨w2.heap.size, 0, none⟩) hlb).trans l0; have k1 := (hb3.cell (p := ⟨w2.heap.size, 1, none⟩) hlb).trans l1; have k2 := (hb3.cell (p := ⟨w2.heap.size, 2, none⟩) hlb).trans l2;
                  have k3 := (hb3.cell (p := ⟨w2.heap.size, 3, none⟩) hlb).trans l3; have k4 := (hb3.cell (p := ⟨w2.heap.size, 4, none⟩) hlb).trans l4; have k5 := (hb3.cell (p := ⟨w2.heap.size, 5, none⟩) hlb).trans l5)
              | (go_at_call 82; refine (span_any s.coins lo' s.hi un' (x + k) _ al (some ⟨b, o, none⟩) s.seen.length c _ rfl hsi0 hco0 hco1 (by omega) (by omega) (by omega) (by omega)).mono ?_; rintro e w4 ⟨rfl, hb4⟩)
              | (go_at_call 67; refine (width_any _ _ _ (by omega) (by omega) (by omega) (by omega)).mono ?_; rintro e w5 ⟨rfl, hb5⟩))
            · have hb45 := hb3.trans ((hb4.trans (hb5.mono hb4.size)).mono hb3.size)
              have hno : okW s coins more (x + k) = false := by rw [HN.out _ rfl]; simp only [decide_eq_false_iff_not]; omega
              go_ret
              exact gives_bool (narrow_no HX.out hlk hno).symm (hwW.trans (hb45.mono hwW.size))
            · have hb45 := hb3.trans ((hb4.trans (hb5.mono hb4.size)).mono hb3.size)
              have hyes : okW s coins more (x + k) = true := by rw [HN.out _ rfl]; simp only [decide_eq_true_eq]; omega
              refine ⟨?_, ?_⟩
              · repeat apply Exists.intro
                refine ⟨?_, rfl⟩
                refine ⟨k + 1, by omega, rfl, hb45, (hs3.mono (fun v h => h.elim id (fun e => e ▸ sok_mk (by omega) hyes))).kept ((hb5.block _ (Nat.lt_of_lt_of_le hs3.lt hb4.size)).trans (hb4.block _ hs3.lt)), fun k' hk' => ?_⟩
                rcases (by omega : k' < k ∨ k' = k) with h | rfl
                · exact HK.out k' h
                · exact hyes
              · simp [intOf]; omega
            · have hyes := sok_ok (by omega) (hr trivial)
              refine ⟨⟨_, _, _, _, ⟨k + 1, by omega, rfl, hbi.alloc (Nat.le_of_lt hmi) _, hsi.kept (Below.heap_alloc _ _ _ hmi), fun k' hk' => ?_⟩, rfl, rfl, rfl, rfl⟩, ?_⟩
              · rcases (by omega : k' < k ∨ k' = k) with h | rfl
                · exact HK.out k' h
                · exact hyes
              · simp [intOf]; omega
          · go_wp2_with (first
              | (at_lookup; refine wpList_look5 rfl _ _ rfl W1.heap.size _ rfl (SetAt.kept hsi (Below.heap_alloc _ _ _ hmi)) (keyV 2 (x + k)) rfl (keyV_of (by omega)) ?_; intro r hr; cases r)
              | (at_mapUpdate; refine wpList_store5 rfl _ _ _ rfl W1.heap.size _ rfl (SetAt.kept hsi (Below.heap_alloc _ _ _ hmi)) (keyV 2 (x + k)) rfl rfl (keyV_of (by omega)) ?_; intro w3 hs3 hg3;
                  have hb3 : Below W1.heap.size W1 w3 := (hbi.alloc (Nat.le_of_lt hmi) _).grown hg3 (Nat.le_trans (Nat.le_of_lt hmi) (by simp)) (fun k e => by cases e; exact Nat.le_refl _);
                  have k0 := (hb3.cell (p := ⟨w2.heap.size, 0, none⟩) hlb).trans l0; have k1 := (hb3.cell (p := ⟨w2.heap.size, 1, none⟩) hlb).trans l1; have k2 := (hb3.cell (p := ⟨w2.heap.size, 2, none⟩) hlb).trans l2;
                  have k3 := (hb3.cell (p := ⟨w2.heap.size, 3, none⟩) hlb).trans l3; have k4 := (hb3.cell (p := ⟨w2.heap.size, 4, none⟩) hlb).trans l4; have k5 := (hb3.cell (p := ⟨w2.heap.size, 5, none⟩) hlb).trans l5)
              | (go_at_call 82; refine (span_any s.coins lo' s.hi un' (x + k) _ al (some ⟨b, o, none⟩) s.seen.length c _ rfl hsi0 hco0 hco1 (by omega) (by omega) (by omega) (by omega)).mono ?_; rintro e w4 ⟨rfl, hb4⟩)
              | (go_at_call 67; refine (width_any _ _ _ (by omega) (by omega) (by omega) (by omega)).mono ?_; rintro e w5 ⟨rfl, hb5⟩))
            · have hb45 := hb3.trans ((hb4.trans (hb5.mono hb4.size)).mono hb3.size)
              have hno : okW s coins more (x + k) = false := by rw [HN.out _ rfl]; simp only [decide_eq_false_iff_not]; omega
              go_ret
              exact gives_bool (narrow_no HX.out hlk hno).symm (hwW.trans (hb45.mono hwW.size))
            · have hb45 := hb3.trans ((hb4.trans (hb5.mono hb4.size)).mono hb3.size)
              have hyes : okW s coins more (x + k) = true := by rw [HN.out _ rfl]; simp only [decide_eq_true_eq]; omega
              refine ⟨?_, ?_⟩
              · repeat apply Exists.intro
                refine ⟨?_, rfl⟩
                refine ⟨k + 1, by omega, rfl, hb45, (hs3.mono (fun v h => h.elim id (fun e => e ▸ sok_mk (by omega) hyes))).kept ((hb5.block _ (Nat.lt_of_lt_of_le hs3.lt hb4.size)).trans (hb4.block _ hs3.lt)), fun k' hk' => ?_⟩
                rcases (by omega : k' < k ∨ k' = k) with h | rfl
                · exact HK.out k' h
                · exact hyes
              · simp [intOf]; omega
            · have hyes := sok_ok (by omega) (hr trivial)
              refine ⟨⟨_, _, _, _, ⟨k + 1, by omega, rfl, hbi.alloc (Nat.le_of_lt hmi) _, hsi.kept (Below.heap_alloc _ _ _ hmi), fun k' hk' => ?_⟩, rfl, rfl, rfl, rfl⟩, ?_⟩
              · rcases (by omega : k' < k ∨ k' = k) with h | rfl
                · exact HK.out k' h
                · exact hyes
              · simp [intOf]; omega
          · go_wp2_with (first
              | (at_lookup; refine wpList_look5 rfl _ _ rfl W1.heap.size _ rfl (SetAt.kept hsi (Below.heap_alloc _ _ _ hmi)) (keyV 3 (x + k)) rfl (keyV_of (by omega)) ?_; intro r hr; cases r)
              | (at_mapUpdate; refine wpList_store5 rfl _ _ _ rfl W1.heap.size _ rfl (SetAt.kept hsi (Below.heap_alloc _ _ _ hmi)) (keyV 3 (x + k)) rfl rfl (keyV_of (by omega)) ?_; intro w3 hs3 hg3;
                  have hb3 : Below W1.heap.size W1 w3 := (hbi.alloc (Nat.le_of_lt hmi) _).grown hg3 (Nat.le_trans (Nat.le_of_lt hmi) (by simp)) (fun k e => by cases e; exact Nat.le_refl _);
                  have k0 := (hb3.cell (p := ⟨w2.heap.size, 0, none⟩) hlb).trans l0; have k1 := (hb3.cell (p := ⟨w2.heap.size, 1, none⟩) hlb).trans l1; have k2 := (hb3.cell (p := ⟨w2.heap.size, 2, none⟩) hlb).trans l2;
                  have k3 := (hb3.cell (p := ⟨w2.heap.size, 3, none⟩) hlb).trans l3; have k4 := (hb3.cell (p := ⟨w2.heap.size, 4, none⟩) hlb).trans l4; have k5 := (hb3.cell (p := ⟨w2.heap.size, 5, none⟩) hlb).trans l5)
              | (go_at_call 82; refine (span_any s.coins lo' s.hi un' (x + k) _ al (some ⟨b, o, none⟩) s.seen.length c _ rfl hsi0 hco0 hco1 (by omega) (by omega) (by omega) (by omega)).mono ?_; rintro e w4 ⟨rfl, hb4⟩)
              | (go_at_call 67; refine (width_any _ _ _ (by omega) (by omega) (by omega) (by omega)).mono ?_; rintro e w5 ⟨rfl, hb5⟩))
            · have hb45 := hb3.trans ((hb4.trans (hb5.mono hb4.size)).mono hb3.size)
              have hno : okW s coins more (x + k) = false := by rw [HN.out _ rfl]; simp only [decide_eq_false_iff_not]; omega
              go_ret
              exact gives_bool (narrow_no HX.out hlk hno).symm (hwW.trans (hb45.mono hwW.size))
            · have hb45 := hb3.trans ((hb4.trans (hb5.mono hb4.size)).mono hb3.size)
              have hyes : okW s coins more (x + k) = true := by rw [HN.out _ rfl]; simp only [decide_eq_true_eq]; omega
              refine ⟨?_, ?_⟩
              · repeat apply Exists.intro
                refine ⟨?_, rfl⟩
                refine ⟨k + 1, by omega, rfl, hb45, (hs3.mono (fun v h => h.elim id (fun e => e ▸ sok_mk (by omega) hyes))).kept ((hb5.block _ (Nat.lt_of_lt_of_le hs3.lt hb4.size)).trans (hb4.block _ hs3.lt)), fun k' hk' => ?_⟩
                rcases (by omega : k' < k ∨ k' = k) with h | rfl
                · exact HK.out k' h
                · exact hyes
              · simp [intOf]; omega
            · have hyes := sok_ok (by omega) (hr trivial)
              refine ⟨⟨_, _, _, _, ⟨k + 1, by omega, rfl, hbi.alloc (Nat.le_of_lt hmi) _, hsi.kept (Below.heap_alloc _ _ _ hmi), fun k' hk' => ?_⟩, rfl, rfl, rfl, rfl⟩, ?_⟩
              · rcases (by omega : k' < k ∨ k' = k) with h | rfl
                · exact HK.out k' h
                · exact hyes
              · simp [intOf]; omega
          · go_wp2_with (first
              | (at_lookup; refine wpList_look5 rfl _ _ rfl W1.heap.size _ rfl (SetAt.kept hsi (Below.heap_alloc _ _ _ hmi)) (keyV 4 (x + k)) rfl (keyV_of (by omega)) ?_; intro r hr; cases r)
              | (at_mapUpdate; refine wpList_store5 rfl _ _ _ rfl W1.heap.size _ rfl (SetAt.kept hsi (Below.heap_alloc _ _ _ hmi)) (keyV 4 (x + k)) rfl rfl (keyV_of (by omega)) ?_; intro w3 hs3 hg3;
                  have hb3 : Below W1.heap.size W1 w3 := (hbi.alloc (Nat.le_of_lt hmi) _).grown hg3 (Nat.le_trans (Nat.le_of_lt hmi) (by simp)) (fun k e => by cases e; exact Nat.le_refl _);
                  have k0 := (hb3.cell (p := ⟨w2.heap.size, 0, none⟩) hlb).trans l0; have k1 := (hb3.cell (p := ⟨w2.heap.size, 1, none⟩) hlb).trans l1; have k2 := (hb3.cell (p := ⟨w2.heap.size, 2, none⟩) hlb).trans l2;
                  have k3 := (hb3.cell (p := ⟨w2.heap.size, 3, none⟩) hlb).trans l3; have k4 := (hb3.cell (p := ⟨w2.heap.size, 4, none⟩) hlb).trans l4; have k5 := (hb3.cell (p := ⟨w2.heap.size, 5, none⟩) hlb).trans l5)
              | (go_at_call 82; refine (span_any s.coins lo' s.hi un' (x + k) _ al (some ⟨b, o, none⟩) s.seen.length c _ rfl hsi0 hco0 hco1 (by omega) (by omega) (by omega) (by omega)).mono ?_; rintro e w4 ⟨rfl, hb4⟩)
              | (go_at_call 67; refine (width_any _ _ _ (by omega) (by omega) (by omega) (by omega)).mono ?_; rintro e w5 ⟨rfl, hb5⟩))
            · have hb45 := hb3.trans ((hb4.trans (hb5.mono hb4.size)).mono hb3.size)
              have hno : okW s coins more (x + k) = false := by rw [HN.out _ rfl]; simp only [decide_eq_false_iff_not]; omega
              go_ret
              exact gives_bool (narrow_no HX.out hlk hno).symm (hwW.trans (hb45.mono hwW.size))
            · have hb45 := hb3.trans ((hb4.trans (hb5.mono hb4.size)).mono hb3.size)
              have hyes : okW s coins more (x + k) = true := by rw [HN.out _ rfl]; simp only [decide_eq_true_eq]; omega
              refine ⟨?_, ?_⟩
              · repeat apply Exists.intro
                refine ⟨?_, rfl⟩
                refine ⟨k + 1, by omega, rfl, hb45, (hs3.mono (fun v h => h.elim id (fun e => e ▸ sok_mk (by omega) hyes))).kept ((hb5.block _ (Nat.lt_of_lt_of_le hs3.lt hb4.size)).trans (hb4.block _ hs3.lt)), fun k' hk' => ?_⟩
                rcases (by omega : k' < k ∨ k' = k) with h | rfl
                · exact HK.out k' h
                · exact hyes
              · simp [intOf]; omega
            · have hyes := sok_ok (by omega) (hr trivial)
              refine ⟨⟨_, _, _, _, ⟨k + 1, by omega, rfl, hbi.alloc (Nat.le_of_lt hmi) _, hsi.kept (Below.heap_alloc _ _ _ hmi), fun k' hk' => ?_⟩, rfl, rfl, rfl, rfl⟩, ?_⟩
              · rcases (by omega : k' < k ∨ k' = k) with h | rfl
                · exact HK.out k' h
                · exact hyes
              · simp [intOf]; omega
        · obtain rfl : k = more + 1 := by omega
          go_wp2
          refine ⟨⟨q + 1, by omega, rfl, hbi, hsi, fun j y hj hy k hk => ?_⟩, ?_⟩
          · rcases (by omega : j < q ∨ j = q) with h | rfl
            · exact HD.out j y h hy k hk
            · have e := HX.out
              rw [hy] at e
              cases e
              exact HK.out k (by omega)
          · simp [intOf]; omega
    · obtain rfl : q = s.seen.length := by omega
      go_wp2
      go_ret
      exact gives_bool (narrow_yes HD.out).symm (hwW.trans (hbr.mono hwW.size))
end Go.Proofs.Ytobeffjdfhkjeaa
