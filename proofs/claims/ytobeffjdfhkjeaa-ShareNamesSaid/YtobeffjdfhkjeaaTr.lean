import Derived.Test.YtobeffjdfhkjeaaWord
import Derived.Test.YtobeffjdfhkjeaaPp
set_option linter.unusedVariables false
set_option linter.unusedSimpArgs false
namespace Go.Proofs.Ytobeffjdfhkjeaa
open Go Go.Proofs Go.RowKit

/-- A new slice of new slices of ints that meets P. -/
def GivesRowsP (w : World) (P : List (List Int) → Prop) (e : Ending) (w' : World) : Prop :=
  ∃ ll A c us, P ll ∧ e = .returned (.slice A ll.length c) ∧ w'.ownsRow w.heap.size 35 1 (.slice A ll.length c) ll.length us ∧ RowsOwn w' w.heap.size us ll ∧ Below w.heap.size w w'

theorem own_some {w : World} {base : Nat} {e : TypeId} {size n c : Nat} {A : Option Addr} {xs : List Value} (h : w.ownsRow base e size (.slice A n c) n xs) (hn : 0 < n) : ∃ g, A = some ⟨g, 0, none⟩ ∧ base ≤ g ∧ g < w.heap.size := by
  rcases h.2 with ⟨_, h0⟩ | ⟨g, cap, cur, h', hb, hg, _⟩
  · omega
  · cases h'
    exact ⟨g, rfl, hb, (Array.getElem?_eq_some_iff.1 hg).1⟩

/-- The journeys of a stratum in the middle of a truth: what is left goes to the others. -/
structure Mid (s : Strat) (all more : Int) (l : List Int) : Prop where
  len : l.length = s.seen.length
  low : ∀ c : Nat, s.seen[c]?.getD 0 ≤ l[c]?.getD 0
  sum : sumL l + more = all
  more0 : 0 ≤ more

theorem Mid.set {s : Strat} {all more x : Int} {l : List Int} (h : Mid s all more l) {c : Nat} (hc : c < l.length) (h0 : 0 ≤ x) (h1 : x ≤ more) : Mid s all (more - x) (l.set c (l[c]?.getD 0 + x)) := by
  refine ⟨by simp [h.len], fun o => ?_, ?_, by omega⟩
  · rw [getD_set hc]
    have := h.low o
    split
    · rename_i e; subst e; omega
    · exact this
  · rw [sumL_set hc]
    have := h.sum
    omega

theorem Mid.part {n : Int} {s : Strat} {all more : Int} {l : List Int} (hs : stratB n s = true) (h : Mid s all more l) (hm : more = 0) (h1 : s.lo ≤ all) (h2 : all ≤ s.hi) : PartOf n s l := by
  obtain ⟨_, _, _, h4, _, _, _⟩ := stratB_iff.1 hs
  obtain ⟨k1, k2, k3, k4⟩ := strat_nums hs
  have hsum := h.sum
  have h0 : ∀ x ∈ l, 0 ≤ x := fun x hx => by
    obtain ⟨j, hj, rfl⟩ := List.getElem_of_mem hx
    have q1 := h.low j
    have q2 := (seen_at hs j).1
    rw [List.getElem?_eq_getElem hj, Option.getD_some] at q1
    omega
  refine ⟨h.len, fun x hx => ⟨h0 x hx, ?_⟩, h.low, by omega, by omega⟩
  obtain ⟨j, hj, rfl⟩ := List.getElem_of_mem hx
  have := (elem_le_sum h0 j).2
  rw [List.getElem?_eq_getElem hj, Option.getD_some] at this
  omega

set_option maxRecDepth 100000 in
set_option maxHeartbeats 3200000 in
theorem Truly_any (n : Int) (v u : Value) (ss : List Strat) (ws : List Int) (w : World) (hv : StrataAt w v ss) (hu : NumsAt .u16 w u ws) (hw : WordsOk ws) (hf : faultI n ss = 0) :
    Calls Try.prog 28 #[.agg #[.int .i64 n, v], u] w (GivesRowsP w (fun ll => truthB n ss ll = true)) := by
  have hb0 : Below w.heap.size w (w.alloc (.cells #[.int .i64 n, v] 24)) := (Below.refl _ _).alloc (Nat.le_refl _) _
  obtain ⟨A, c, rfl, hc, hm⟩ := hv.form
  obtain ⟨A', c', rfl, hc', hm'⟩ := hu.form
  obtain ⟨i0, hi0, hz0, hz1, hz2⟩ := info_parts info35
  have hfz := fault_zero hf
  have hs8 := hfz.1
  have hn5 := hfz.2.2.1
  have hn1 := hfz.2.1
  have Hval := Lib.hid hfz.2.2.2
  have Hf := Lib.hid hf
  clear hfz hf
  go_enter Try.func28, Try.ntmps28
  go_wp2
  go_loopw [5, 6] (fun x i wr => ∃ (k : Nat) (A2 : Option Addr) (c2 : Nat) (us : List Value) (ll : List (List Int)), k ≤ ss.length ∧ i = .int .i64 k ∧ x = .slice A2 k c2 ∧ Below w.heap.size w wr ∧ w.heap.size < wr.heap.size ∧
      wr.cell? ⟨w.heap.size, 0, none⟩ = some (.int .i64 n) ∧ wr.cell? ⟨w.heap.size, 1, none⟩ = some (.slice A ss.length c) ∧ wr.ownsRow (w.heap.size + 1) 35 1 (.slice A2 k c2) k us ∧
      RowsOwn wr (w.heap.size + 1) us ll ∧ ll.length = k ∧ ∀ (j : Nat) (s : Strat) (l : List Int), ss[j]? = some s → ll[j]? = some l → PartOf n s l) (fun x i wr => ss.length - (intOf i).toNat)
  case atStart => exact ⟨0, none, 0, [], [], by omega, rfl, rfl, hb0, by simp, by simp [go_sem], by simp [go_sem], World.ownsRow_nil _ _ _ _, ⟨by simp, by intro j l h; simp at h⟩, rfl, by intro j s l h1 h2; simp at h2⟩
  case round =>
    obtain ⟨k, A2, c2, us, ll, hk, rfl, rfl, hb, hlt0, hc0, hc1, hown, hro, hll, hpt⟩ := hrel
    obtain ⟨wo, rfl⟩ : ∃ wo : World, wo = wr := ⟨_, rfl⟩
    by_cases hlt : k < ss.length
    · have hlt' : (k : Int) < (ss.length : Int) := by omega
      obtain ⟨b, o, s, y, rfl, hs, hy, e0, e1, e2, e3, hby⟩ := hv.at_ hlt
      have hst := Hval.out k s hs
      have Hs := Lib.hid hs
      have Hst := Lib.hid hst
      obtain ⟨hco, hhi, hun, hse⟩ := strat_nums hst
      obtain ⟨_, hlo, hlh, _, hsn, _, hsl⟩ := stratB_iff.1 hst
      have hok : SumOk s.seen := seen_ok hn5 hst
      have hsn5 : s.seen.length ≤ 5 := by omega
      have hpos : 0 < s.seen.length := by omega
      have Hse := Lib.hid hse
      have Hll := Lib.hid hll
      have Hpt := Lib.hid hpt
      have Hro := Lib.hid hro
      clear hs hst hse hsn hll hpt hro
      replace hy := hy.below hb
      obtain ⟨B, C, rfl, hC, hC'⟩ := hy.form
      replace e0 := cell_below hb e0
      replace e1 := cell_below hb e1
      replace e2 := cell_below hb e2
      replace e3 := cell_below hb e3
      have hby1 : b < wo.heap.size := by have := hb.size; omega
      go_wp2_with fail
      refine (list_any _ s.seen _ (hy.below ((Below.refl _ _).alloc (Nat.le_refl _) _)) (by omega)).mono ?_
      rintro e w1 ⟨A1, C1, rfl, ho1, hb1⟩
      have hbx : Below wo.heap.size wo w1 := ((Below.refl _ _).alloc (Nat.le_refl _) _).trans (hb1.mono (by simp))
      have hsz1 : wo.heap.size < w1.heap.size := by have := hb1.size; simp at this; omega
      have f1 : w1.cell? ⟨wo.heap.size, 1, none⟩ = some (.int .i64 s.lo) := cell_below hb1 (by simp [go_sem])
      have f2 : w1.cell? ⟨wo.heap.size, 2, none⟩ = some (.int .i64 s.hi) := cell_below hb1 (by simp [go_sem])
      have hu1 := hu.below (hb.trans (hbx.mono hb.size))
      have hwd := wordI_bd hw k
      obtain ⟨q, hq, hq0, hq1⟩ : ∃ q, wordI ws k % (s.hi - s.lo + 1) = q ∧ 0 ≤ q ∧ q ≤ s.hi - s.lo :=
        ⟨_, rfl, Int.emod_nonneg _ (by omega), by have := Int.emod_lt_of_pos (wordI ws k) (b := s.hi - s.lo + 1) (by omega); omega⟩
      have hwr : wrap64 (s.lo + q) = s.lo + q := IntWalk.wrap64_in _ (by omega)
      have g1 := Later.cell f1
      have g2 := Later.cell f2
      go_wp2_with fail
      refine wp_region_later (by kernel_rfl) (by kernel_rfl) ?_
      repeat (go_big_quiet_step ((go_at_call 47; exact Later.call (Same.gives (word_same _ ws k _ (hu1.below (Subtype.property _)) hw (by omega))))))
      refine wpQuiet_nil ?_
      intro w2 hx2
      have hb2 := Later.out hx2
      clear hx2 g1 g2
      have ho2 := own_below ho1 hb2
      have hbo : Below wo.heap.size wo w2 := hbx.trans (hb2.mono hbx.size)
      have hsz2 : wo.heap.size < w2.heap.size := by have := hb2.size; omega
      have hsb := sumL_bound (M := 400) (by omega) Hse.out
      clear hq hwr f1 f2 hu1
      go_wp2_with (go_at_call 30; refine (Sum_same _ s.seen _ (nums_of_own ho2) hok).mono ?_; rintro e w3 ⟨rfl, rfl⟩)
      obtain ⟨g, rfl, hg1, hg2⟩ := own_some ho2 hpos
      have hg3 : wo.heap.size < g := by simp at hg1; omega
      go_loopw [10, 11] (fun x i wr => ∃ (j : Nat) (more : Int) (l : List Int), j ≤ s.seen.length ∧ i = .int .i64 j ∧ x = .int .i64 more ∧ Mid s (s.lo + q) more l ∧ more ≤ 400 ∧ (j = s.seen.length → more = 0) ∧
          Below wo.heap.size wo wr ∧ wo.heap.size < wr.heap.size ∧ wr.ownsRow (wo.heap.size + 1) 3 1 (.slice (some ⟨g, 0, none⟩) s.seen.length C1) s.seen.length (l.map (.int .i64))) (fun x i wr => s.seen.length - (intOf i).toNat)
      case atStart => exact ⟨0, s.lo + q - sumL s.seen, s.seen, by omega, rfl, rfl, ⟨rfl, fun c => Int.le_refl _, by omega, by omega⟩, by omega, by omega, hbo, hsz2, by simpa using ho2⟩
      case round =>
        obtain ⟨j, more, l, hj, rfl, rfl, hmid, hm4, hmz, hbi, hsi, hoi⟩ := hrel
        obtain ⟨wi, rfl⟩ : ∃ wi : World, wi = wr := ⟨_, rfl⟩
        have Hmid := Lib.hid hmid
        have hm0 := hmid.more0
        have hll := hmid.len
        have Hmz := Lib.hid hmz
        clear hmid hmz
        by_cases hlt1 : j < s.seen.length ∧ 0 < more
        · obtain ⟨hj1, hm1⟩ := hlt1
          have hj2 : (j : Int) < (s.seen.length : Int) := by omega
          obtain ⟨x, hx⟩ : ∃ x, l[j]? = some x := ⟨_, List.getElem?_eq_getElem (by omega)⟩
          have r1 : wi.cell? ⟨g, j, none⟩ = some (.int .i64 x) := by
            rw [hoi.cellAt j (by omega), List.getElem?_map, hx]
            rfl
          have r2 := hoi.frozenAt j
          have hxb : 0 ≤ x ∧ x ≤ 400 := by
            have q1 := Hmid.out.low j
            have q2 := (seen_at Hst.out j).1
            have q3 := elem_le_sum (l := l) (fun y hy => by
              obtain ⟨t, ht, rfl⟩ := List.getElem_of_mem hy
              have q1 := Hmid.out.low t
              have q2 := (seen_at Hst.out t).1
              rw [List.getElem?_eq_getElem ht, Option.getD_some] at q1
              omega) j
            have q4 := Hmid.out.sum
            rw [hx, Option.getD_some] at q1 q3
            omega
          have Hx : Hid (l[j]?.getD 0 = x) := by show l[j]?.getD 0 = x; rw [hx]; rfl
          have Hll := Lib.hid hll
          have hlen := Nat.le_of_eq hll
          have hlen2 := Nat.le_of_eq hll.symm
          clear hx hll
          have hui := hu.below (hb.trans (hbi.mono hb.size))
          obtain ⟨z, hz⟩ : ∃ z, wordI ws (3 * k + j + 1) = z := ⟨_, rfl⟩
          have hzb := wordI_bd hw (3 * k + j + 1)
          have hcall : Calls Try.prog 47 #[.slice A' ws.length c', .int .i64 (3 * (k : Int) + j + 1)] wi (Same wi (.int .i64 z)) := by
            have := word_same _ ws (3 * k + j + 1) wi hui hw (by omega)
            rw [hz] at this
            simpa using this
          rw [hz] at hzb
          clear hz
          obtain ⟨y, hy, hy0, hy1⟩ : ∃ y, z % (more + 1) = y ∧ 0 ≤ y ∧ y ≤ more :=
            ⟨_, rfl, Int.emod_nonneg _ (by omega), by have := Int.emod_lt_of_pos z (b := more + 1) (by omega); omega⟩
          have hst1 := hoi.stored j (.int .i64 (x + y))
          have hst2 := hoi.stored j (.int .i64 (x + more))
          have Hst1 := Lib.hid hst1
          have Hst2 := Lib.hid hst2
          clear hst1 hst2
          by_cases hlast : j + 1 = s.seen.length
          · have ht : ((j : Int) == (s.seen.length : Int) - 1) = true := beq_iff_eq.2 (by omega)
            have Hlast := Lib.hid hlast
            clear hlast
            go_wp2_with (go_at_call 47; refine hcall.mono ?_; rintro e w4 ⟨rfl, rfl⟩)
            go_roundw
            case rel =>
              refine ⟨j + 1, 0, l.set j (x + more), by omega, by go_num, by go_num, ?_, by omega, fun _ => rfl, hbi.setCell (p := ⟨g, j, none⟩) (by simp only; omega) _, by simpa using hsi, ?_⟩
              · have := Hmid.out.set (c := j) (x := more) (by omega) (by omega) (by omega)
                rw [Hx.out, Int.sub_self] at this
                exact this
              · rw [List.map_set]; exact Hst2.out.1
            case measure => simp [intOf]; omega
          · have ht : ((j : Int) == (s.seen.length : Int) - 1) = false := beq_eq_false_iff_ne.2 (by omega)
            go_wp2_with (go_at_call 47; refine hcall.mono ?_; rintro e w4 ⟨rfl, rfl⟩)
            go_roundw
            case rel =>
              refine ⟨j + 1, more - y, l.set j (x + y), by omega, by go_num, rfl, ?_, by omega, by omega, hbi.setCell (p := ⟨g, j, none⟩) (by simp only; omega) _, by simpa using hsi, ?_⟩
              · have := Hmid.out.set (c := j) (x := y) (by omega) (by omega) (by omega)
                rw [Hx.out] at this
                exact this
              · rw [List.map_set]; exact Hst1.out.1
            case measure => simp [intOf]; omega
        · have hmore : more = 0 := by
            by_cases e : j = s.seen.length
            · exact Hmz.out e
            · omega
          subst hmore
          have hpart : PartOf n s l := Hmid.out.part Hst.out rfl (by omega) (by omega)
          have Hpart := Lib.hid hpart
          clear hpart
          have hown1 := own_below hown hbi
          have hwo := hb.size
          have hwi := hbi.size
          by_cases hj1 : j < s.seen.length
          all_goals
            go_wp2_with (at_builtin; refine wpList_append_src _ rfl (.tmp 84) (.tmp 86) 25 rfl (w.heap.size + 1) 35 i0 _ 1 24 Try.underlying25 hi0 hz0 hz1 hz2 rfl (by omega) _ k us rfl (hown1.alloc _) (some ⟨wi.heap.size, 0, none⟩) 1 1 [.slice (some ⟨g, 0, none⟩) s.seen.length C1] rfl (src_new wi [.slice (some ⟨g, 0, none⟩) s.seen.length C1] 35 1 1 rfl) (by simp [Value.oneCell']) (by simp [maxLen]; omega) (by omega) (by simp; omega) ?_; intro v5 w5 hown5 hg5 hat5; obtain ⟨A5, c5, rfl⟩ := own_form hown5)
            have hg6 : (wi.alloc (.cells #[.slice (some ⟨g, 0, none⟩) s.seen.length C1] 35)).grownBy w5 (Value.slice A2 k c2).ownBlock := hg5
            clear hg5
            have hba : Below wo.heap.size wo (wi.alloc (.cells #[.slice (some ⟨g, 0, none⟩) s.seen.length C1] 35)) := hbi.alloc hbi.size _
            have hbaw : Below (w.heap.size + 1) wo (wi.alloc (.cells #[.slice (some ⟨g, 0, none⟩) s.seen.length C1] 35)) := hba.mono (by omega)
            have hb5 : Below (w.heap.size + 1) wo w5 := below_grown hbaw hg6 (by simp; omega) (hown1.alloc _) (Nat.le_refl _)
            go_roundw
            case rel =>
              refine ⟨k + 1, A5, c5, us ++ [.slice (some ⟨g, 0, none⟩) s.seen.length C1], ll ++ [l], by omega, by go_num, rfl, hb.trans (hb5.mono (by omega)), by have := hb5.size; omega, ?_, ?_, hown5, ?_, by simp [Hll.out], ?_⟩
              · rw [hb5.cell (p := ⟨w.heap.size, 0, none⟩) (by simp)]; exact hc0
              · rw [hb5.cell (p := ⟨w.heap.size, 1, none⟩) (by simp)]; exact hc1
              · have h1 : RowsOwn (wi.alloc (.cells #[.slice (some ⟨g, 0, none⟩) s.seen.length C1] 35)) (w.heap.size + 1) us ll := Hro.out.below hba
                have hll := Hmid.out.len
                rw [← hll] at hoi
                have h2 := h1.kept (hown1.alloc _) (by decide) hg6
                rw [← hll]
                exact h2.snoc (own_mono ((hoi.alloc _).kept hg6 (own_apart hoi hown1 (by decide))) (by omega))
              · intro j' s' l' h1 h2
                rw [List.getElem?_append] at h2
                split at h2
                · exact Hpt.out j' s' l' h1 h2
                · rename_i hj'
                  have hj2 := (List.getElem?_eq_some_iff.1 h2).1
                  simp at hj2
                  have ej : j' = k := by have := Hll.out; omega
                  subst ej
                  rw [Hs.out] at h1
                  cases h1
                  rw [Hll.out] at h2
                  simp at h2
                  subst h2
                  exact Hpart.out
            case measure => simp [intOf]; omega
    · obtain rfl : k = ss.length := by omega
      have Hll := Lib.hid hll
      have Hpt := Lib.hid hpt
      have Hro := Lib.hid hro
      clear hll hpt hro
      go_wp2
      go_ret
      refine ⟨ll, A2, c2, us, truth_of Hf.out Hll.out Hpt.out, by rw [Hll.out]; rfl, ?_, Hro.out.mono (by omega), hb⟩
      rw [Hll.out]
      exact own_mono hown (by omega)
end Go.Proofs.Ytobeffjdfhkjeaa
