import Derived.Test.YtobeffjdfhkjeaaDa
import Derived.Test.YtobeffjdfhkjeaaTr
set_option linter.unusedVariables false
set_option linter.unusedSimpArgs false
namespace Go.Proofs.Ytobeffjdfhkjeaa
open Go Go.Proofs Go.RowKit

/-! ### Rows by a function -/
def rowF (n : Nat) (f : Nat → Int) : List Value := (List.range n).map fun j => .int .i64 (f j)
theorem rowF_length (n : Nat) (f : Nat → Int) : (rowF n f).length = n := by simp [rowF]
theorem rowF_get {n j : Nat} {f : Nat → Int} (h : j < n) : (rowF n f)[j]? = some (.int .i64 (f j)) := by simp [rowF, h]
theorem rowF_set {n : Nat} {f : Nat → Int} (j : Nat) (x : Int) : (rowF n f).set j (.int .i64 x) = rowF n (fun c => if c = j then x else f c) := by
  apply List.ext_getElem?
  intro i
  rw [List.getElem?_set, rowF_length]
  by_cases e : j = i
  · subst e
    by_cases h : j < n
    · rw [if_pos rfl, if_pos h, rowF_get h, if_pos rfl]
    · rw [if_pos rfl, if_neg h, List.getElem?_eq_none (by rw [rowF_length]; omega)]
  · rw [if_neg e]
    by_cases h : i < n
    · rw [rowF_get h, rowF_get h, if_neg (fun h => e h.symm)]
    · rw [List.getElem?_eq_none (by rw [rowF_length]; omega), List.getElem?_eq_none (by rw [rowF_length]; omega)]
theorem rowF_succ (n : Nat) (f : Nat → Int) : rowF (n + 1) f = rowF n f ++ [.int .i64 (f n)] := by simp [rowF, List.range_succ]
theorem rowF_congr {n : Nat} {f g : Nat → Int} (h : ∀ c, c < n → f c = g c) : rowF n f = rowF n g := by
  unfold rowF
  refine List.map_congr_left fun c hc => ?_
  rw [h c (List.mem_range.1 hc)]
theorem rowF_ints (l : List Int) : l.map (Value.int .i64) = rowF l.length (fun j => l[j]?.getD 0) := by
  apply List.ext_getElem?
  intro i
  by_cases h : i < l.length
  · rw [rowF_get h, List.getElem?_map, List.getElem?_eq_getElem h]
    rfl
  · rw [List.getElem?_eq_none (by simpa using Nat.not_lt.1 h), List.getElem?_eq_none (by rw [rowF_length]; omega)]
theorem rowF_map (n : Nat) (f : Nat → Int) : rowF n f = ((List.range n).map f).map (Value.int .i64) := by simp [rowF, List.map_map]

/-- Two rows of their own. -/
def Apart (v u : Value) : Prop := v.ownBlock = none ∨ v.ownBlock ≠ u.ownBlock
theorem Apart.symm {v u : Value} (h : Apart v u) : Apart u v := by
  unfold Apart at *
  cases e : u.ownBlock with
  | none => exact .inl rfl
  | some b =>
    right
    rcases h with h | h
    · rw [h]; simp
    · intro h2; exact h (by rw [e, h2])
theorem Apart.app {w : World} {v v' u : Value} {base : Nat} {e : TypeId} {size n : Nat} {xs : List Value} (h : Apart v u) (hat : v'.ownBlock = v.ownBlock ∨ v'.ownBlock = some w.heap.size) (hu : w.ownsRow base e size u n xs) : Apart v' u := by
  rcases hat with hat | hat
  · unfold Apart
    rw [hat]
    exact h
  · right
    rw [hat]
    intro h2
    exact absurd (hu.lt _ h2.symm).2 (by omega)
theorem apart_nil (u : Value) : Apart (.slice none 0 0) u := .inl rfl

theorem divW_get {ws : List Int} {c : Nat} (hc : c < ws.length) : wAt ws c = if sumL ws = 0 then 1 else ws[c]?.getD 0 := by
  unfold wAt divW
  split
  · simp [hc]
  · rfl
theorem rowF_divW (ws : List Int) : (divW ws).map (Value.int .i64) = rowF ws.length (wAt ws) := by
  rw [rowF_ints, divW_length]
  rfl

theorem leftK_sum (coins : Int) (ws : List Int) : ∀ k, sumL ((List.range k).map (quoAt coins ws)) + leftK coins ws k = coins
  | 0 => by simp [sumL, leftK]
  | k + 1 => by
    have ih := leftK_sum coins ws k
    rw [List.range_succ, List.map_append, sumL_append]
    simp only [List.map_cons, List.map_nil, sumL, leftK]
    omega
theorem divL_length (coins : Int) (ws : List Int) : (divL coins ws).length = ws.length := by simp [divL]
theorem sumOk_quo {coins : Int} {ws : List Int} (h : DivOk coins ws) : SumOk ((List.range ws.length).map (quoAt coins ws)) := by
  intro k hk
  have hb := sumL_bound (l := ((List.range ws.length).map (quoAt coins ws)).take k) (M := 10000000000000) (by omega) fun x hx => by
    obtain ⟨c, _, rfl⟩ := List.mem_map.1 (List.mem_of_mem_take hx)
    exact h.quo c
  have hl := h.len
  have : (((List.range ws.length).map (quoAt coins ws)).take k).length ≤ 5 := by simp; omega
  omega
theorem divAt_zero (coins : Int) (ws : List Int) (c : Nat) : divAt coins ws 0 c = quoAt coins ws c := by simp [divAt]
theorem restI_zero (r : Nat → Int) (n c : Nat) : restI r n 0 c = r c := by simp [restI]
theorem divAt_step {coins : Int} {ws : List Int} {i b c : Nat} (hb : b < ws.length) (hc : c < ws.length) (hr : rank (remAt coins ws) ws.length b = i) : divAt coins ws (i + 1) c = if c = b then divAt coins ws i b + 1 else divAt coins ws i c := by
  unfold divAt
  by_cases e : c = b
  · subst e
    rw [if_pos (by omega), if_pos rfl, if_neg (by omega)]
    omega
  · have : rank (remAt coins ws) ws.length c ≠ i := fun h => e (rank_inj hc hb (h.trans hr.symm))
    rw [if_neg e]
    by_cases h : rank (remAt coins ws) ws.length c < i
    · rw [if_pos h, if_pos (by omega)]
    · rw [if_neg h, if_neg (by omega)]

set_option maxRecDepth 100000 in
set_option maxHeartbeats 3200000 in
theorem refDivide_any (coins : Int) (v : Value) (ws : List Int) (w : World) (hv : NumsAt .i64 w v ws) (h : DivOk coins ws) :
    Calls Try.prog 51 #[.int .i64 coins, v] w (GivesInts w (divL coins ws)) := by
  obtain ⟨A, c, rfl, hc, hm⟩ := hv.form
  obtain ⟨i0, hi0, hz0, hz1, hz2⟩ := info_parts info3
  have hb0 : Below w.heap.size w (w.alloc (.cells #[] 3)) := (Below.refl _ _).alloc (Nat.le_refl _) _
  have ho : (w.alloc (.cells #[] 3)).ownsRow w.heap.size 3 1 (.slice (some ⟨w.heap.size, 0, none⟩) 0 0) 0 [] := World.ownsRow_lit w #[] 0 (Nat.le_refl _) (by simp [maxLen]) (by simp)
  have hlen := h.len
  have hco := h.coins
  have hok : SumOk ws := sumOk_of (by omega) fun x hx => by have := h.ws x hx; omega
  have hokW : SumOk (divW ws) := sumOk_of (by rw [divW_length]; omega) fun x hx => by have := h.w x hx; omega
  have H := Lib.hid h
  clear h
  go_enter Try.func51, Try.ntmps51
  go_wp2_with (at_builtin; refine wpList_append_src _ rfl (.tmp 14) (.tmp 15) 35 rfl w.heap.size 3 i0 _ 1 8 Try.underlying35 hi0 hz0 hz1 hz2 rfl (by omega) _ 0 [] rfl ho A ws.length c (ws.map (.int .i64)) rfl (src_of_nums (hv.below hb0)) (ints_one ws) (by simp [maxLen]; omega) (by omega) (by simp) ?_; intro v1 w1 hown1 hg1 hat1)
  have hb1 : Below w.heap.size w w1 := below_grown hb0 hg1 (by simp) ho (Nat.le_refl _)
  rw [Nat.zero_add, List.nil_append, rowF_ints] at hown1
  obtain ⟨A1, c1, rfl⟩ := own_form hown1
  obtain ⟨g, rfl, hg, hgl⟩ := own_some hown1 (by omega)
  clear hg1 hat1 ho
  go_wp2_with fail
  go_loopw [6] (fun x wr => ∃ k : Nat, k ≤ ws.length ∧ x = .int .i64 k ∧ Below w.heap.size w wr ∧ wr.ownsRow w.heap.size 3 1 (.slice (some ⟨g, 0, none⟩) ws.length c1) ws.length (rowF ws.length (fun j => if sumL ws = 0 ∧ j < k then 1 else ws[j]?.getD 0))) (fun x wr => ws.length - (intOf x).toNat)
  case atStart => exact ⟨0, by omega, rfl, hb1, by simpa using hown1⟩
  case round =>
    obtain ⟨k, hk, rfl, hbr, hown⟩ := hrel
    obtain ⟨wo, rfl⟩ : ∃ wo : World, wo = wr := ⟨_, rfl⟩
    by_cases hlt : k < ws.length
    · have hltI : (k : Int) < (ws.length : Int) := by omega
      have i0 : (0 : Int) ≤ (k : Int) := by omega
      have r0 := hown.cellAt k (by omega)
      rw [rowF_get hlt] at r0
      have r1 := hown.frozenAt k
      have hst := hown.stored k (.int .i64 1)
      rw [rowF_set] at hst
      have Hst := Lib.hid hst
      have Hown := Lib.hid hown
      clear hst hown
      by_cases hz : sumL ws = 0
      · have Hz := Lib.hid hz
        have hs0 : Calls Try.prog 30 #[.slice A ws.length c] wo (Same wo (.int .i64 0)) := by
          have := Sum_same _ ws _ (hv.below hbr) hok
          rwa [hz] at this
        clear hz
        go_wp2_with (go_at_call 30; refine hs0.mono ?_; rintro e w2 ⟨rfl, rfl⟩)
        go_roundw
        case rel =>
          refine ⟨k + 1, by omega, by go_num, hbr.setCell (p := ⟨g, k, none⟩) (by simp only; omega) _, ?_⟩
          have := Hst.out.1
          rw [rowF_congr (g := fun j => if sumL ws = 0 ∧ j < k + 1 then 1 else ws[j]?.getD 0)] at this
          · exact this
          · intro c hc
            simp only [Hz.out, true_and]
            by_cases e : c = k
            · subst e
              rw [if_pos rfl, if_pos (by omega)]
            · rw [if_neg e]
              by_cases e2 : c < k
              · rw [if_pos e2, if_pos (by omega)]
              · rw [if_neg e2, if_neg (by omega)]
        case measure => simp [intOf]; omega
      · have hzb : (sumL ws == 0) = false := beq_eq_false_iff_ne.2 hz
        have Hz := Lib.hid hz
        clear hz
        go_wp2_with (go_at_call 30; refine (Sum_same _ ws _ (hv.below hbr) hok).mono ?_; rintro e w2 ⟨rfl, rfl⟩)
        go_roundw
        case rel =>
          refine ⟨k + 1, by omega, by go_num, hbr, ?_⟩
          have := Hown.out
          rw [rowF_congr (g := fun j => if sumL ws = 0 ∧ j < k + 1 then 1 else ws[j]?.getD 0)] at this
          · exact this
          · intro c hc
            rw [if_neg (fun h => Hz.out h.1), if_neg (fun h => Hz.out h.1)]
        case measure => simp [intOf]; omega
    · obtain rfl : k = ws.length := by omega
      rw [rowF_congr (g := wAt ws) (fun c hc => by rw [divW_get hc]; simp only [hc, and_true]), ← rowF_divW] at hown
      have hn5 := nums_of_own hown
      have hlw : (divW ws).length = ws.length := divW_length ws
      have hsum : Calls Try.prog 30 #[.slice (some ⟨g, 0, none⟩) ws.length c1] wo (Same wo (.int .i64 (wholeW ws))) := Sum_same _ (divW ws) _ hn5 hokW
      rw [rowF_divW] at hown
      have Hown := Lib.hid hown
      clear hown hlw hn5 hown1
      go_wp2_with (go_at_call 30; refine hsum.mono ?_; rintro e w2 ⟨rfl, rfl⟩)
      have hwb := H.out.whole
      have hwz : (wholeW ws == 0) = false := beq_eq_false_iff_ne.2 (by omega)
      obtain ⟨wh, hwh⟩ : ∃ x, wholeW ws = x := ⟨_, rfl⟩
      have Hwh := Lib.hid hwh
      rw [hwh] at hwb hwz ⊢
      clear hwh hsum
      go_wp2_with fail
      go_loopw [8, 9, 10] (fun x y i wq => ∃ (k : Nat) (A8 A9 : Option Addr) (c8 c9 : Nat), k ≤ ws.length ∧ i = .int .i64 k ∧ x = .slice A8 k c8 ∧ y = .slice A9 k c9 ∧ Below wo.heap.size wo wq ∧ wq.ownsRow wo.heap.size 3 1 (.slice A8 k c8) k (rowF k (quoAt coins ws)) ∧ wq.ownsRow wo.heap.size 3 1 (.slice A9 k c9) k (rowF k (remAt coins ws)) ∧ Apart (.slice A8 k c8) (.slice A9 k c9)) (fun x y i wq => ws.length - (intOf i).toNat)
      case atStart => exact ⟨0, none, none, 0, 0, by omega, rfl, rfl, rfl, Below.refl _ _, World.ownsRow_nil _ _ _ _, World.ownsRow_nil _ _ _ _, apart_nil _⟩
      case round =>
        obtain ⟨k, A8, A9, c8, c9, hk', rfl, rfl, rfl, hbq, own8, own9, hap⟩ := hrel
        obtain ⟨wp, rfl⟩ : ∃ wp : World, wp = wr := ⟨_, rfl⟩
        have hsz := hbq.size
        have HownQ := Lib.hid (own_below Hown.out hbq)
        by_cases hlt : k < ws.length
        · have hltI : (k : Int) < (ws.length : Int) := by omega
          have j0 : (0 : Int) ≤ (k : Int) := by omega
          have r0 := HownQ.out.cellAt k (by omega)
          rw [rowF_get hlt] at r0
          have hxb := H.out.wat k
          have hpb := H.out.prod k
          have Hq : Hid (quoAt coins ws k = coins * wAt ws k / wh) := by show _ = _; rw [← Hwh.out]; rfl
          have Hr : Hid (remAt coins ws k = coins * wAt ws k % wh) := by show _ = _; rw [← Hwh.out]; rfl
          obtain ⟨x, hx⟩ : ∃ x, wAt ws k = x := ⟨_, rfl⟩
          rw [hx] at r0 hxb hpb Hq Hr
          have Hx := Lib.hid hx
          clear hx
          go_wp2_with (first
            | (at_builtin; refine wpList_append_src _ rfl (.tmp 37) (.tmp 46) 35 rfl wo.heap.size 3 i0 _ 1 8 Try.underlying35 hi0 hz0 hz1 hz2 rfl (by omega) _ k _ rfl (own8.alloc _) (some ⟨wp.heap.size, 0, none⟩) 1 1 [.int .i64 (coins * x / wh)] rfl (src_new wp [.int .i64 (coins * x / wh)] 3 1 1 rfl) (by simp [Value.oneCell']) (by simp [maxLen]; omega) (by omega) (by simp; omega) ?_; intro v20 w20 hown20 hg20 hat20; have hb20 := below_grown (hbq.alloc hbq.size _) hg20 (by simp; omega) (own8.alloc _) (Nat.le_refl _); have own20 := (own9.alloc _).kept hg20 hap.symm; have hap20 := hap.app hat20 (own9.alloc _); obtain ⟨A20, c20, rfl⟩ := own_form hown20; have r1 := (own_below Hown.out hb20).cellAt k (by omega); rw [rowF_get hlt, Hx.out] at r1)
            | (at_builtin; refine wpList_append_src _ rfl (.tmp 48) (.tmp 57) 35 rfl wo.heap.size 3 i0 _ 1 8 Try.underlying35 hi0 hz0 hz1 hz2 rfl (by omega) _ k _ rfl (own20.alloc _) (some ⟨w20.heap.size, 0, none⟩) 1 1 [.int .i64 (coins * x % wh)] rfl (src_new w20 [.int .i64 (coins * x % wh)] 3 1 1 rfl) (by simp [Value.oneCell']) (by simp [maxLen]; omega) (by omega) (by have := hb20.size; simp; omega) ?_; intro v21 w21 hown21 hg21 hat21; have hb21 := below_grown (hb20.alloc hb20.size _) hg21 (by have := hb20.size; simp; omega) (own20.alloc _) (Nat.le_refl _); have own21 := (hown20.alloc _).kept hg21 hap20; have hap21 := hap20.symm.app hat21 (hown20.alloc _); obtain ⟨A21, c21, rfl⟩ := own_form hown21))
          rw [← Hq.out, ← rowF_succ] at own21
          rw [← Hr.out, ← rowF_succ] at hown21
          go_roundw
          case rel => exact ⟨k + 1, A20, A21, c20, c21, by omega, by go_num, rfl, rfl, hb21, own21, hown21, hap21.symm⟩
          case measure => simp [intOf]; omega
        · obtain rfl : k = ws.length := by omega
          obtain ⟨g8, rfl, hg8, hgl8⟩ := own_some own8 (by omega)
          obtain ⟨g9, rfl, hg9, hgl9⟩ := own_some own9 (by omega)
          have hne : g8 ≠ g9 := by
            rcases hap with h | h
            · simp [Value.ownBlock] at h
            · intro e; exact h (by rw [e]; rfl)
          have hsumO : Calls Try.prog 30 #[.slice (some ⟨g8, 0, none⟩) ws.length c8] wp (Same wp (.int .i64 (sumL ((List.range ws.length).map (quoAt coins ws))))) := by
            have o8 := own8
            rw [rowF_map] at o8
            exact Sum_same _ _ _ (nums_of_own o8) (sumOk_quo H.out)
          have hle := H.out.left
          have hls : sumL ((List.range ws.length).map (quoAt coins ws)) + leftAll coins ws = coins := leftK_sum coins ws ws.length
          obtain ⟨so, hso⟩ : ∃ x, sumL ((List.range ws.length).map (quoAt coins ws)) = x := ⟨_, rfl⟩
          rw [hso] at hls hsumO
          obtain ⟨L, hL⟩ : ∃ x, leftAll coins ws = x := ⟨_, rfl⟩
          rw [hL] at hls hle
          have HL := Lib.hid hL
          clear hso hL
          have own8' : wp.ownsRow wo.heap.size 3 1 (.slice (some ⟨g8, 0, none⟩) ws.length c8) ws.length (rowF ws.length (divAt coins ws 0)) := by
            rw [rowF_congr (g := divAt coins ws 0) (fun c _ => (divAt_zero coins ws c).symm)] at own8
            exact own8
          have own9' : wp.ownsRow wo.heap.size 3 1 (.slice (some ⟨g9, 0, none⟩) ws.length c9) ws.length (rowF ws.length (restI (remAt coins ws) ws.length 0)) := by
            rw [rowF_congr (g := restI (remAt coins ws) ws.length 0) (fun c _ => (restI_zero _ _ c).symm)] at own9
            exact own9
          clear own8 own9 hap
          have hL2 : coins - so = L := by omega
          go_wp2_with (go_at_call 30; refine hsumO.mono ?_; rintro e w22 ⟨rfl, rfl⟩)
          try rw [hL2]
          clear hsumO hL2 hls
          go_loopw [11] (fun x wq => ∃ i : Nat, (i : Int) ≤ L ∧ x = .int .i64 (L - i) ∧ Below wo.heap.size wo wq ∧ wq.ownsRow wo.heap.size 3 1 (.slice (some ⟨g8, 0, none⟩) ws.length c8) ws.length (rowF ws.length (divAt coins ws i)) ∧ wq.ownsRow wo.heap.size 3 1 (.slice (some ⟨g9, 0, none⟩) ws.length c9) ws.length (rowF ws.length (restI (remAt coins ws) ws.length i))) (fun x wq => (intOf x).toNat)
          case atStart => exact ⟨0, by omega, by simp, hbq, own8', own9'⟩
          case round =>
            obtain ⟨i, hi, rfl, hbi, o8, o9⟩ := hrel
            obtain ⟨wi, rfl⟩ : ∃ wi : World, wi = wr := ⟨_, rfl⟩
            have O8 := Lib.hid o8
            have O9 := Lib.hid o9
            clear o8 o9 own8' own9' hbq
            by_cases hlt : (i : Int) < L
            · have hlt1 : 0 < L - (i : Int) := by omega
              go_wp2_with fail
              go_loopw [12, 13] (fun b j wj => ∃ b' j' : Nat, 1 ≤ j' ∧ j' ≤ ws.length ∧ j = .int .i64 j' ∧ b = .int .i64 b' ∧ b' < j' ∧ (∀ c, c < j' → restI (remAt coins ws) ws.length i c ≤ restI (remAt coins ws) ws.length i b') ∧ (∀ c, c < b' → restI (remAt coins ws) ws.length i c < restI (remAt coins ws) ws.length i b') ∧ Below wi.heap.size wi wj) (fun b j wj => ws.length - (intOf j).toNat)
              case atStart =>
                refine ⟨0, 1, by omega, by omega, rfl, rfl, by omega, fun c hc => ?_, fun c hc => by omega, Below.refl _ _⟩
                obtain rfl : c = 0 := by omega
                exact Int.le_refl _
              case round =>
                obtain ⟨b', j, hj1, hj, rfl, rfl, hbj, hmax, hfst, hbx⟩ := hrel
                obtain ⟨wj, rfl⟩ : ∃ wj : World, wj = wr := ⟨_, rfl⟩
                have Hmax := Lib.hid hmax
                have Hfst := Lib.hid hfst
                have hb'n : b' < ws.length := by omega
                have hb'I : (b' : Int) < (ws.length : Int) := by omega
                have hb'0 : (0 : Int) ≤ (b' : Int) := by omega
                have P9 := Lib.hid (own_below O9.out hbx)
                have P8 := Lib.hid (own_below O8.out hbx)
                have y2 := P9.out.cellAt b' (by omega)
                rw [rowF_get hb'n] at y2
                obtain ⟨rb, hrb⟩ : ∃ x, restI (remAt coins ws) ws.length i b' = x := ⟨_, rfl⟩
                rw [hrb] at y2
                have Hrb := Lib.hid hrb
                clear hmax hfst hrb
                by_cases hltj : j < ws.length
                · have hltJ : (j : Int) < (ws.length : Int) := by omega
                  have y1 := P9.out.cellAt j (by omega)
                  rw [rowF_get hltj] at y1
                  obtain ⟨rj, hrj⟩ : ∃ x, restI (remAt coins ws) ws.length i j = x := ⟨_, rfl⟩
                  rw [hrj] at y1
                  have Hrj := Lib.hid hrj
                  clear hrj
                  have x1 := Later.cell y1
                  have x2 := Later.cell y2
                  go_wp2_with fail
                  refine wp_region_later (by kernel_rfl) (by kernel_rfl) ?_
                  repeat (go_big_quiet_step (fail))
                  refine wpQuiet_nil ?_
                  intro w30 hx30
                  have hb30 := Later.out hx30
                  clear hx30 x1 x2
                  go_wp2
                  · have q : rb < rj := by assumption
                    go_roundw
                    case rel =>
                      refine ⟨j, j + 1, by omega, by omega, by go_num, rfl, by omega, fun c hc => ?_, fun c hc => ?_, hbx.trans (hb30.mono hbx.size)⟩
                      · by_cases e : c = j
                        · subst e; exact Int.le_refl _
                        · have := Hmax.out c (by omega)
                          rw [Hrb.out] at this
                          rw [Hrj.out]
                          omega
                      · have := Hmax.out c hc
                        rw [Hrb.out] at this
                        rw [Hrj.out]
                        omega
                    case measure => simp [intOf]; omega
                  · have q : rj ≤ rb := by assumption
                    go_roundw
                    case rel =>
                      refine ⟨b', j + 1, by omega, by omega, by go_num, rfl, by omega, fun c hc => ?_, Hfst.out, hbx.trans (hb30.mono hbx.size)⟩
                      by_cases e : c = j
                      · subst e
                        rw [Hrb.out, Hrj.out]
                        exact q
                      · exact Hmax.out c (by omega)
                    case measure => simp [intOf]; omega
                · obtain rfl : j = ws.length := by omega
                  have hrk : rank (remAt coins ws) ws.length b' = i := best_rank (fun c hc => (H.out.rem c).1) (by omega) hb'n Hmax.out Hfst.out
                  have Hrk := Lib.hid hrk
                  have y3 := P8.out.cellAt b' (by omega)
                  rw [rowF_get hb'n] at y3
                  have z3 := P8.out.frozenAt b'
                  have hdb : 0 ≤ divAt coins ws i b' ∧ divAt coins ws i b' ≤ 10000000000001 := by
                    have := H.out.quo b'
                    unfold divAt
                    split <;> omega
                  obtain ⟨x, hx⟩ : ∃ x, divAt coins ws i b' = x := ⟨_, rfl⟩
                  rw [hx] at y3 hdb
                  have Hx := Lib.hid hx
                  have hst8 := P8.out.stored b' (.int .i64 (x + 1))
                  have q9 := P9.out.kept hst8.2 (.inr (by intro e; exact hne (Option.some.inj e).symm))
                  have y4 := q9.cellAt b' (by omega)
                  rw [rowF_get hb'n] at y4
                  have z4 := q9.frozenAt b'
                  have hst9 := q9.stored b' (.int .i64 (-1))
                  have q8 := hst8.1.kept hst9.2 (.inr (by intro e; exact hne (Option.some.inj e)))
                  have q9' := hst9.1
                  rw [rowF_set] at q8 q9'
                  rw [rowF_congr (g := divAt coins ws (i + 1)) (fun c hc => by rw [divAt_step hb'n hc Hrk.out, Hx.out])] at q8
                  rw [rowF_congr (g := restI (remAt coins ws) ws.length (i + 1)) (fun c hc => by rw [restI_step hb'n hc Hrk.out])] at q9'
                  have Q8 := Lib.hid q8
                  have Q9 := Lib.hid q9'
                  have hbi2 := hbi.trans (hbx.mono hbi.size)
                  clear hrk hx hst8 hst9 q8 q9 q9'
                  go_wp2_with fail
                  go_roundw
                  case rel =>
                    refine ⟨i + 1, by omega, by go_num, (hbi2.setCell (p := ⟨g8, b', none⟩) (by simp only; omega) _).setCell (p := ⟨g9, b', none⟩) (by simp only; omega) _, Q8.out, Q9.out⟩
                  case measure => simp [intOf]; omega
            · have hiL : (i : Int) = L := by omega
              have hlt1 : L - (i : Int) ≤ 0 := by omega
              have hi2 : (leftAll coins ws).toNat = i := by rw [HL.out]; omega
              have Hi2 := Lib.hid hi2
              clear hi2
              go_wp2_with fail
              go_ret
              have o8 := own_mono O8.out hbr.size
              have e : rowF ws.length (divAt coins ws i) = (divL coins ws).map (Value.int .i64) := by
                rw [rowF_map, ← Hi2.out]
                rfl
              rw [e] at o8
              refine ⟨some ⟨g8, 0, none⟩, c8, by rw [divL_length]; rfl, by rw [divL_length]; exact o8, hbr.trans (hbi.mono hbr.size)⟩
end Go.Proofs.Ytobeffjdfhkjeaa
