import Derived.Test.YtckgapeednokjaaGreatUf
set_option linter.unusedVariables false
set_option linter.unusedSimpArgs false
namespace Go.Proofs.YtckgapeednokjaaGreat
open Go Go.Proofs Go.RowKit

/-! ### last -/
def Rc.zero : Rc := ⟨0, 0, 0, 0, 0, 0⟩
theorem lastR_snoc (m : Int) (r : Rc) : ∀ l : List Rc, lastR m (l ++ [r]) = if r.mac = m then some r else lastR m l
  | [] => by simp [lastR]
  | x :: l => by
    rw [List.cons_append, lastR, lastR_snoc m r l, lastR]
    by_cases h : r.mac = m
    · simp [h]
    · simp [h]
def lastD (m : Int) (l : List Rc) : Rc := (lastR m l).getD Rc.zero
theorem lastD_snoc (m : Int) (r : Rc) (l : List Rc) : lastD m (l ++ [r]) = if r.mac = m then r else lastD m l := by
  unfold lastD
  rw [lastR_snoc]
  split <;> rfl
set_option maxRecDepth 100000 in
set_option maxHeartbeats 1600000 in
theorem last_any (u : Value) (l : List Rc) (m : Int) (w : World) (hl : RecsAt w u l) : Calls Tryz.prog 11 #[u, .int .i64 m] w (Gives w (.agg #[.int .i64 (lastD m l).mac, .int .i64 (lastD m l).seq, .int .i64 (lastD m l).min, .int .u8 (lastD m l).kind, .int .i64 (lastD m l).a, .int .i64 (lastD m l).b])) := by
  obtain ⟨A, c, rfl, _, _⟩ := hl.form
  have Hl := Lib.hid hl
  clear hl
  go_enter Tryz.func11, Tryz.ntmps11
  go_upto_region 2 with (fail)
  refine wp_name (fun V => Below w.heap.size w V ∧ V.heap[w.heap.size]? = some (.cells #[.int .i64 0, .int .i64 0, .int .i64 0, .int .u8 0, .int .i64 0, .int .i64 0] 31 (0, 0)) ∧ V.heap[w.heap.size + 1]? = some (.cells #[.int .i64 0, .int .i64 0, .int .i64 0, .int .u8 0, .int .i64 0, .int .i64 0] 31 (0, 0))) ⟨two_belowT w _ _, (Below.heap_alloc _ _ _ (by simp)).trans (heap_alloc_new w _), heap_alloc2_new w _ _⟩ (fun W hW => ?_)
  obtain ⟨hbW, g0, g1⟩ := hW
  obtain ⟨P, hP⟩ : ∃ P, w.heap.size + 1 = P := ⟨_, rfl⟩
  have hPw : w.heap.size < P := by omega
  rw [hP] at g1 ⊢
  have Gg := Lib.hid (And.intro g0 g1)
  clear hP g0 g1
  go_wp2
  go_loopw [6] (fun s wr => ∃ k : Nat, k ≤ l.length ∧ s = .int .i64 (k : Int) ∧ Below w.heap.size w wr ∧ wr.heap[w.heap.size]? = some (.cells #[.int .i64 0, .int .i64 0, .int .i64 0, .int .u8 0, .int .i64 0, .int .i64 0] 31 (0, 0)) ∧ wr.heap[P]? = some (.cells #[.int .i64 (lastD m (l.take k)).mac, .int .i64 (lastD m (l.take k)).seq, .int .i64 (lastD m (l.take k)).min, .int .u8 (lastD m (l.take k)).kind, .int .i64 (lastD m (l.take k)).a, .int .i64 (lastD m (l.take k)).b] 31 (0, 0))) (fun s wr => l.length - (intOf s).toNat)
  case atStart => exact ⟨0, by omega, rfl, hbW, Gg.out.1, Gg.out.2⟩
  case round =>
    obtain ⟨k, hk, rfl, hb, hz, hk1⟩ := hrel
    obtain ⟨wo, rfl⟩ : ∃ wo : World, wo = wr := ⟨_, rfl⟩
    have Hz := Lib.hid hz
    have Hk1 := Lib.hid hk1
    have Hb := Lib.hid hb
    clear hz hk1
    by_cases hlt : k < l.length
    · obtain ⟨b1, o1, x, e, hx, x0, x1, x2, x3, x4, x5, _⟩ := (Hl.out.below hb).at_ hlt
      cases e
      have htk : l.take (k + 1) = l.take k ++ [x] := by rw [List.take_add_one, hx]; rfl
      have Htk := Lib.hid htk
      clear hx htk hb
      by_cases hm : x.mac = m
      · have hmb : (x.mac == m) = true := by simpa using hm
        have Hm := Lib.hid hm
        clear hm
        have pf := box_frozen Hk1.out
        have pc := box_cells Hk1.out
        go_wp2
        go_roundw
        case rel =>
          have hb := Hb.out
          have hk := Hk1.out
          have hB3 := ((((((hb).setCell (p := ⟨P, 0, none⟩) (Nat.le_of_lt hPw) (.int .i64 x.mac)).setCell (p := ⟨P, 1, none⟩) (Nat.le_of_lt hPw) (.int .i64 x.seq)).setCell (p := ⟨P, 2, none⟩) (Nat.le_of_lt hPw) (.int .i64 x.min)).setCell (p := ⟨P, 3, none⟩) (Nat.le_of_lt hPw) (.int .u8 x.kind)).setCell (p := ⟨P, 4, none⟩) (Nat.le_of_lt hPw) (.int .i64 x.a)).setCell (p := ⟨P, 5, none⟩) (Nat.le_of_lt hPw) (.int .i64 x.b)
          have bx3 := (blk_set (blk_set (blk_set (blk_set (blk_set (blk_set hk (o := 0) (.int .i64 x.mac)) (o := 1) (.int .i64 x.seq)) (o := 2) (.int .i64 x.min)) (o := 3) (.int .u8 x.kind)) (o := 4) (.int .i64 x.a)) (o := 5) (.int .i64 x.b))
          simp only [List.setIfInBounds_toArray, List.set_cons_succ, List.set_cons_zero] at bx3
          refine ⟨k + 1, by omega, by go_num, hB3, ?_, ?_⟩
          · exact blk_other (blk_other (blk_other (blk_other (blk_other (blk_other Hz.out (by omega) _) (by omega) _) (by omega) _) (by omega) _) (by omega) _) (by omega) _
          · rw [Htk.out, lastD_snoc, if_pos Hm.out]
            exact bx3
        case measure => simp [intOf]; omega
      · have hmb : (x.mac == m) = false := by simpa using hm
        have Hm := Lib.hid hm
        clear hm
        go_wp2
        go_roundw
        case rel =>
          refine ⟨k + 1, by omega, by go_num, Hb.out, Hz.out, ?_⟩
          rw [Htk.out, lastD_snoc, if_neg Hm.out]
          exact Hk1.out
        case measure => simp [intOf]; omega
    · obtain rfl : k = l.length := by omega
      have hk1 := Hk1.out
      rw [List.take_of_length_le (Nat.le_refl _)] at hk1
      obtain ⟨y, hy⟩ : ∃ y, lastD m l = y := ⟨_, rfl⟩
      rw [hy] at hk1 ⊢
      have pf := box_frozen hk1
      have pc := box_cells hk1
      have zf := box_frozen Hz.out
      have zc := box_cells Hz.out
      have Hy := Lib.hid hy
      clear hy hb
      go_wp2
      have hb := Hb.out
      have hk := Hz.out
      have hB3 := ((((((hb).setCell (p := ⟨w.heap.size, 0, none⟩) (Nat.le_refl _) (.int .i64 y.mac)).setCell (p := ⟨w.heap.size, 1, none⟩) (Nat.le_refl _) (.int .i64 y.seq)).setCell (p := ⟨w.heap.size, 2, none⟩) (Nat.le_refl _) (.int .i64 y.min)).setCell (p := ⟨w.heap.size, 3, none⟩) (Nat.le_refl _) (.int .u8 y.kind)).setCell (p := ⟨w.heap.size, 4, none⟩) (Nat.le_refl _) (.int .i64 y.a)).setCell (p := ⟨w.heap.size, 5, none⟩) (Nat.le_refl _) (.int .i64 y.b)
      have bx3 := (blk_set (blk_set (blk_set (blk_set (blk_set (blk_set hk (o := 0) (.int .i64 y.mac)) (o := 1) (.int .i64 y.seq)) (o := 2) (.int .i64 y.min)) (o := 3) (.int .u8 y.kind)) (o := 4) (.int .i64 y.a)) (o := 5) (.int .i64 y.b))
      simp only [List.setIfInBounds_toArray, List.set_cons_succ, List.set_cons_zero] at bx3
      refine bodyPost_ret (results_cell_row rfl _ _ w.heap.size 31 #[.int .i64 y.mac, .int .i64 y.seq, .int .i64 y.min, .int .u8 y.kind, .int .i64 y.a, .int .i64 y.b] (0, 0) _ rfl bx3 rfl rfl (by kernel_rfl)) rfl ⟨by rw [Hy.out], hB3⟩
end Go.Proofs.YtckgapeednokjaaGreat
