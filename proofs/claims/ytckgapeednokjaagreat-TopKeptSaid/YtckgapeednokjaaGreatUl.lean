import Derived.Test.YtckgapeednokjaaGreatUk
import Derived.Lib.LazyBuf
set_option linter.unusedVariables false
set_option linter.unusedSimpArgs false
set_option linter.unusedSectionVars false
namespace Go.Proofs.YtckgapeednokjaaGreat
open Go Go.Proofs Go.RowKit



theorem infoRest : (Tryz.prog.info? 108).map (fun i => (i.zero, i.size, i.bytes)) = some (some (.agg #[.int .i64 0, .int .i64 0]), 2, 16) := by kernel_rfl
theorem left_bd {coins : Int} {ws : List Int} (h : DivOk coins ws) (k : Nat) (hk : k ≤ ws.length) : 0 ≤ leftK coins ws k ∧ leftK coins ws k ≤ 10000000 := by
  induction k with
  | zero => exact h.coins
  | succ k ih =>
    have h1 := ih (by omega)
    have h2 := h.quo k
    refine ⟨?_, by simp only [leftK]; omega⟩
    obtain ⟨S, h0, _, h3⟩ := h.left_at (k + 1) hk
    have hw := h.whole
    refine Int.not_lt.1 fun hn => ?_
    have h4 : wholeW ws * leftK coins ws (k + 1) < 0 := Int.mul_neg_of_pos_of_neg (by omega) hn
    have h5 : 0 ≤ coins * sumL ((divW ws).drop (k + 1)) := Int.mul_nonneg h.coins.1 (sumL_bound (M := 1000000) (by omega) fun x hx => h.w x (List.mem_of_mem_drop hx)).1
    omega

set_option maxRecDepth 100000 in
theorem Clone_any (v : Value) (l : List Int) (w : World) (hv : NumsAt .i64 w v l) (h0 : 0 < l.length) (hl : l.length ≤ 1000000) : Calls Tryz.prog 38 #[v] w (GivesInts w l) := by
  obtain ⟨A, c, rfl, hc, hm⟩ := hv.form
  obtain ⟨b, o, x, rfl, _, _, _⟩ := hv.at_ (k := 0) h0
  obtain ⟨i0, hi0, hz0, hz1, hz2⟩ := info_parts infoI
  have hb0 : Below w.heap.size w (w.alloc (.cells #[] 3)) := (Below.refl _ _).alloc (Nat.le_refl _) _
  have ho : (w.alloc (.cells #[] 3)).ownsRow w.heap.size 3 1 (.slice (some ⟨w.heap.size, 0, none⟩) 0 0) 0 [] := World.ownsRow_lit w #[] 0 (Nat.le_refl _) (by simp [maxLen]) (by simp)
  have hcb := src_of_nums (hv.below hb0)
  have hnil := fun W => Go.Lib.run_eql_slice_nil (P := Tryz.prog) W 29 3 (some ⟨b, o, none⟩) l.length c 0 0 Tryz.underlying29
  simp only [Option.isNone_some] at hnil
  clear hv
  go_enter Tryz.func38, Tryz.ntmps38
  go_wp2_with (at_builtin; go_loud (refine wpList_append_src _ rfl (.tmp 5) (.tmp 6) 29 rfl w.heap.size 3 i0 _ 1 8 Tryz.underlying29 hi0 hz0 hz1 hz2 rfl (by omega) _ 0 [] rfl ho (some ⟨b, o, none⟩) l.length c (l.map (.int .i64)) rfl hcb (ints_one l) (by simp [maxLen]; omega) (by omega) (by simp) ?_; intro v1 w1 hown1 hg1 hat1))
  go_ret
  rw [Nat.zero_add, List.nil_append] at hown1
  obtain ⟨A1, c1, rfl⟩ := own_form hown1
  exact ⟨A1, c1, rfl, hown1, below_grown hb0 hg1 (by simp) ho (Nat.le_refl _)⟩

theorem ap83 {w : World} {b b' n n' : Nat} {v u : Value} {xs ys : List Value} (h : w.ownsRow b 108 2 v n xs) (h' : w.ownsRow b' 3 1 u n' ys) : v.ownBlock = none ∨ v.ownBlock ≠ u.ownBlock := own_apart h h' (by decide)
theorem ap38 {w : World} {b b' n n' : Nat} {v u : Value} {xs ys : List Value} (h : w.ownsRow b 3 1 v n xs) (h' : w.ownsRow b' 108 2 u n' ys) : v.ownBlock = none ∨ v.ownBlock ≠ u.ownBlock := own_apart h h' (by decide)

def GivesDiv (w : World) (n : Nat) (f : Nat → Int) (e : Ending) (w' : World) : Prop := ∃ A c, e = .returned (.tuple #[.slice A n c, .int .i64 0]) ∧ w'.ownsRow w.heap.size 3 1 (.slice A n c) n (rowF n f) ∧ Below w.heap.size w w'

set_option maxRecDepth 100000 in
set_option maxHeartbeats 3200000 in
theorem Divide_ok (coins : Int) (v : Value) (ws : List Int) (w : World) (hv : NumsAt .i64 w v ws) (h : DivOk coins ws) :
    Calls Tryz.prog 12 #[.int .i64 coins, v] w (GivesDiv w ws.length (divAt coins ws (leftAll coins ws).toNat)) := by
  obtain ⟨A, c, rfl, hc, hm⟩ := hv.form
  obtain ⟨i0, hi0, hz0, hz1, hz2⟩ := info_parts infoI
  obtain ⟨i8, hi8, hy0, hy1, hy2⟩ := info_parts infoRest
  have hlen := h.len
  have hco := h.coins
  have hok : SumOk ws := sumOk_of (by omega) fun x hx => by have := h.ws x hx; omega
  have hokW : SumOk (divW ws) := sumOk_of (by rw [divW_length]; omega) fun x hx => by have := h.w x hx; omega
  have h5I : (ws.length : Int) ≤ 5 := by omega
  have h0I : ((ws.length : Int) == 0) = false := beq_eq_false_iff_ne.2 (by omega)
  have hall : (ws.all fun x => inB x 0 1000000) = true := List.all_eq_true.2 fun x hx => inB_iff.2 (h.ws x hx)
  have hin : inB coins 0 10000000 = true := inB_iff.2 h.coins
  have H := Lib.hid h
  clear h
  go_enter Tryz.func12, Tryz.ntmps12
  go_wp2_with fail
  refine (Gives.to hall (allD_any _ ws _ hv)).mono ?_; rintro e w0 ⟨rfl, hb0⟩
  go_wp2_with fail
  refine (Same.to hin (withinS_same _ _ _ _)).mono ?_; rintro e w0' ⟨rfl, rfl⟩
  clear hall hin
  go_wp2_with fail
  refine (Clone_any _ ws _ (hv.below hb0) (by omega) (by omega)).mono ?_; rintro e w1 ⟨A1, c1, rfl, hown1, hb1'⟩
  have hb1 : Below w.heap.size w w1 := hb0.trans (hb1'.mono hb0.size)
  replace hown1 := own_mono hown1 hb0.size
  have hs1 : Calls Tryz.prog 39 #[.slice A1 ws.length c1] w1 (Same w1 (.int .i64 (sumL ws))) := sum_same _ ws _ (nums_of_own hown1) hok
  rw [rowF_ints] at hown1
  obtain ⟨g, rfl, hg, hgl⟩ := own_some hown1 (by omega)
  clear hb1'
  by_cases hz : sumL ws = 0
  · rw [hz] at hs1
    go_wp2_with (go_at_call 39; refine hs1.mono ?_; rintro e w2 ⟨rfl, rfl⟩)
    clear hs1
    go_loopw [39] (fun x wr => ∃ k : Nat, k ≤ ws.length ∧ x = .int .i64 k ∧ Below w.heap.size w wr ∧ wr.ownsRow w.heap.size 3 1 (.slice (some ⟨g, 0, none⟩) ws.length c1) ws.length (rowF ws.length (fun j => if sumL ws = 0 ∧ j < k then 1 else ws[j]?.getD 0))) (fun x wr => ws.length - (intOf x).toNat)
    case atStart => exact ⟨0, by omega, rfl, hb1, by simpa using hown1⟩
    case round =>
      obtain ⟨k, hk, rfl, hbr, hown⟩ := hrel
      obtain ⟨wo, rfl⟩ : ∃ wo : World, wo = wr := ⟨_, rfl⟩
      by_cases hlt : k < ws.length
      · have hltI : (k : Int) < (ws.length : Int) := by omega
        have j0 : (0 : Int) ≤ (k : Int) := by omega
        have r0 := hown.cellAt k (by omega)
        rw [rowF_get hlt] at r0
        have r1 := hown.frozenAt k
        have hst := hown.stored k (.int .i64 1)
        rw [rowF_set] at hst
        have Hst := Lib.hid hst
        have Hz := Lib.hid hz
        clear hst hown hz
        go_wp2_with fail
        go_roundw
        case rel =>
          refine ⟨k + 1, by omega, by go_num, hbr.setCell (p := ⟨g, k, none⟩) (by simp only; omega) _, ?_⟩
          have := Hst.out.1
          rw [rowF_congr (g := fun j => if sumL ws = 0 ∧ j < k + 1 then 1 else ws[j]?.getD 0)] at this
          · exact this
          · intro c hc
            simp only [Hz.out, true_and]
            by_cases e : c = k
            · subst e
              rw [if_pos rfl, if_pos (by omega)]
            · rw [if_neg e]
              by_cases e2 : c < k
              · rw [if_pos e2, if_pos (by omega)]
              · rw [if_neg e2, if_neg (by omega)]
        case measure => simp [intOf]; omega
      · obtain rfl : k = ws.length := by omega
        rw [rowF_congr (g := wAt ws) (fun c hc => by rw [divW_get hc]; simp only [hc, and_true])] at hown
        have Hown := Lib.hid hown
        clear hown hown1 hz
        have hown0 := Hown.out
        have hsum : Calls Tryz.prog 39 #[.slice (some ⟨g, 0, none⟩) ws.length c1] wo (Same wo (.int .i64 (wholeW ws))) := by
          have hn5 := hown0
          rw [← rowF_divW] at hn5
          have := sum_same _ (divW ws) _ (nums_of_own (n := (divW ws).length) (by rw [divW_length]; exact hn5)) hokW
          exact this
        have hwb := H.out.whole
        have hwz : (wholeW ws == 0) = false := beq_eq_false_iff_ne.2 (by omega)
        obtain ⟨wh, hwh⟩ : ∃ x, wholeW ws = x := ⟨_, rfl⟩
        have Hwh := Lib.hid hwh
        rw [hwh] at hwb hwz hsum
        clear hwh hown0
        go_wp2_with (go_at_call 39; refine hsum.mono ?_; rintro e w2 ⟨rfl, rfl⟩)
        clear hsum
        go_loopw [9, 10, 11, 51] (fun l x y i wq => ∃ (k : Nat) (A8 A9 : Option Addr) (c8 c9 : Nat), k ≤ ws.length ∧ i = .int .i64 k ∧ l = .int .i64 (leftK coins ws k) ∧ x = .slice A8 k c8 ∧ y = .slice A9 k c9 ∧ Below wo.heap.size wo wq ∧ wq.ownsRow wo.heap.size 3 1 (.slice A8 k c8) k (rowF k (quoAt coins ws)) ∧ wq.ownsRow wo.heap.size 108 2 (.slice A9 k c9) k (rowR k (remAt coins ws))) (fun l x y i wq => ws.length - (intOf i).toNat)
        case atStart => exact ⟨0, none, none, 0, 0, by omega, rfl, rfl, rfl, rfl, Below.refl _ _, World.ownsRow_nil _ _ _ _, World.ownsRow_nil _ _ _ _⟩
        case round =>
          obtain ⟨k, A8, A9, c8, c9, hk', rfl, rfl, rfl, rfl, hbq, own8, own9⟩ := hrel
          obtain ⟨wp, rfl⟩ : ∃ wp : World, wp = wr := ⟨_, rfl⟩
          have hsz := hbq.size
          have HownQ := Lib.hid (own_below Hown.out hbq)
          by_cases hlt : k < ws.length
          · have hltI : (k : Int) < (ws.length : Int) := by omega
            have j0 : (0 : Int) ≤ (k : Int) := by omega
            have j1 : (k : Int) < (k : Int) + 1 := by omega
            have r0 := HownQ.out.cellAt k (by omega)
            rw [rowF_get hlt] at r0
            have hxb := H.out.wat k
            have hpb := H.out.prod k
            have hqb := H.out.quo k
            have hlb := left_bd H.out k (by omega)
            have Hq : Hid (quoAt coins ws k = coins * wAt ws k / wh) := by show _ = _; rw [← Hwh.out]; rfl
            have Hr : Hid (remAt coins ws k = coins * wAt ws k % wh) := by show _ = _; rw [← Hwh.out]; rfl
            obtain ⟨x, hx⟩ : ∃ x, wAt ws k = x := ⟨_, rfl⟩
            rw [hx] at r0 hxb hpb Hq Hr
            have Hx := Lib.hid hx
            clear hx
            have Hl : Hid (leftK coins ws (k + 1) = leftK coins ws k - quoAt coins ws k) := rfl
            rw [Hq.out] at Hl hqb
            obtain ⟨lk, hlk⟩ : ∃ z, leftK coins ws k = z := ⟨_, rfl⟩
            rw [hlk] at Hl hlb ⊢
            clear hlk
            go_upto_region 21 with (at_builtin; refine wpList_append_src _ rfl (.tmp 56) (.tmp 62) 29 rfl wo.heap.size 3 i0 _ 1 8 Tryz.underlying29 hi0 hz0 hz1 hz2 rfl (by omega) (.slice A8 k c8) k _ rfl (own8.alloc _) (some ⟨wp.heap.size, 0, none⟩) 1 1 [.int .i64 (coins * x / wh)] rfl (src_new wp [.int .i64 (coins * x / wh)] 3 1 1 rfl) (by simp [Value.oneCell']) (by simp [maxLen]; omega) (by omega) (by simp; omega) ?_; intro v20 w20 hown20 hg20 hat20)
            have hg20' : (wp.alloc (.cells #[.int .i64 (coins * x / wh)] 3)).grownBy w20 (Value.slice A8 k c8).ownBlock := hg20
            have hb20 := below_grown (hbq.alloc hbq.size (.cells #[.int .i64 (coins * x / wh)] 3)) hg20' (by simp; omega) (own8.alloc _) (Nat.le_refl _)
            have own20 := (own9.alloc (.cells #[.int .i64 (coins * x / wh)] 3)).kept hg20' (ap83 (own9.alloc _) (own8.alloc (.cells #[.int .i64 (coins * x / wh)] 3)))
            obtain ⟨A20, c20, rfl⟩ := own_form hown20
            have r1 := (own_below Hown.out hb20).cellAt k (by omega)
            rw [rowF_get hlt, Hx.out] at r1
            clear hg20 hat20
            go_upto_region 22 with (at_builtin; refine wpList_append_src _ rfl (.tmp 64) (.tmp 72) 106 rfl wo.heap.size 108 i8 _ 2 16 Tryz.underlying106 hi8 hy0 hy1 hy2 rfl (by omega) (.slice A9 k c9) k _ rfl (own20.alloc _) (some ⟨w20.heap.size, 0, none⟩) 1 1 [.int .i64 (k : Int), .int .i64 (coins * x % wh)] rfl (src_new w20 [.int .i64 (k : Int), .int .i64 (coins * x % wh)] 108 1 2 rfl) (by simp [Value.oneCell']) (by simp [maxLen]; omega) (by omega) (by have := hb20.size; simp; omega) ?_; intro v21 w21 hown21 hg21 hat21)
            have hg21' : (w20.alloc (.cells #[.int .i64 (k : Int), .int .i64 (coins * x % wh)] 108)).grownBy w21 (Value.slice A9 k c9).ownBlock := hg21
            have hb21 := below_grown (hb20.alloc hb20.size (.cells #[.int .i64 (k : Int), .int .i64 (coins * x % wh)] 108)) hg21' (by have := hb20.size; simp; omega) (own20.alloc _) (Nat.le_refl _)
            have own21 := (hown20.alloc (.cells #[.int .i64 (k : Int), .int .i64 (coins * x % wh)] 108)).kept hg21' (ap38 (hown20.alloc _) (own20.alloc (.cells #[.int .i64 (k : Int), .int .i64 (coins * x % wh)] 108)))
            obtain ⟨A21, c21, rfl⟩ := own_form hown21
            obtain ⟨g20, rfl, hg20a, hg20b⟩ := own_some own21 (by omega)
            have r2 := own21.cellAt k (by omega)
            rw [← Hq.out, ← rowF_succ, rowF_get (by omega), Hq.out] at r2
            clear hg21 hat21
            go_wp2_with fail
            rw [← Hq.out, ← rowF_succ] at own21
            rw [← Hr.out, ← rowR_succ] at hown21
            go_roundw
            case rel => exact ⟨k + 1, some ⟨g20, 0, none⟩, A21, c20, c21, by omega, by go_num, by rw [Hl.out], rfl, rfl, hb21, own21, hown21⟩
            case measure => simp [intOf]; omega
          · obtain rfl : k = ws.length := by omega
            obtain ⟨g8, rfl, hg8, hgl8⟩ := own_some own8 (by omega)
            obtain ⟨g9, rfl, hg9, hgl9⟩ := own_some own9 (by omega)
            have hne : g8 ≠ g9 := by
              rcases ap38 own8 own9 with h | h
              · simp [Value.ownBlock] at h
              · intro e; exact h (by rw [e]; rfl)
            have hsortc := sortRest_any (remAt coins ws) ws.length g9 c9 wo.heap.size wp (by omega) (fun c hc => ⟨(H.out.rem c).1, by have h1 := (H.out.rem c).2; have h2 := H.out.whole; omega⟩) own9
            have hle := H.out.left
            obtain ⟨L, hL⟩ : ∃ x, leftAll coins ws = x := ⟨_, rfl⟩
            have hLk : leftK coins ws ws.length = L := hL
            rw [hL] at hle
            rw [hLk]
            have HL := Lib.hid hL
            clear hL hLk
            go_wp2_with fail
            refine hsortc.mono ?_; rintro e w30 ⟨rfl, od, hord, hgs, hcell⟩
            have o8 := own8.kept hgs (.inr (by intro e; exact hne (Option.some.inj e)))
            have hb30 := below_grown (v := .slice (some ⟨g9, 0, none⟩) ws.length c9) hbq hgs hsz own9 (Nat.le_refl _)
            have Hord := Lib.hid hord
            have Hcell := Lib.hid hcell
            rw [rowF_congr (g := divAt coins ws 0) (fun c _ => (divAt_zero coins ws c).symm)] at o8
            clear hsortc own8 own9 hord hcell hgs
            go_wp2_with fail
            go_loopw [84] (fun i wq => ∃ j : Nat, (j : Int) ≤ L ∧ i = .int .i64 j ∧ Below wo.heap.size wo wq ∧ wq.ownsRow wo.heap.size 3 1 (.slice (some ⟨g8, 0, none⟩) ws.length c8) ws.length (rowF ws.length (divAt coins ws j)) ∧ ∀ (i x : Nat), od[i]? = some x → wq.cell? ⟨g9, i * 2, none⟩ = some (.int .i64 (x : Int))) (fun i wq => (L - intOf i).toNat)
            case atStart => exact ⟨0, by omega, rfl, hb30, o8, Hcell.out⟩
            case round =>
              obtain ⟨j, hj, rfl, hbj, oj, hcj⟩ := hrel
              obtain ⟨wj, rfl⟩ : ∃ wj : World, wj = wr := ⟨_, rfl⟩
              have Oj := Lib.hid oj
              have Hcj := Lib.hid hcj
              clear oj hcj
              by_cases hlt : (j : Int) < L
              · have hjn : (j : Int) < (ws.length : Int) := by omega
                have hj0 : (0 : Int) ≤ (j : Int) := by omega
                obtain ⟨x, hx⟩ : ∃ x, od[j]? = some x := ⟨_, List.getElem?_eq_getElem (by rw [Hord.out.length]; omega)⟩
                have hxn := Hord.out.lt hx
                have hxI : (x : Int) < (ws.length : Int) := by omega
                have hx0 : (0 : Int) ≤ (x : Int) := by omega
                have hrk := Hord.out.rank_of hx
                have Hrk := Lib.hid hrk
                have y1 := Hcj.out j x hx
                have y3 := Oj.out.cellAt x (by omega)
                rw [rowF_get hxn] at y3
                have z3 := Oj.out.frozenAt x
                have hdb : 0 ≤ divAt coins ws j x ∧ divAt coins ws j x ≤ 10000000000001 := by
                  have := H.out.quo x
                  unfold divAt
                  split <;> omega
                obtain ⟨d, hd⟩ : ∃ d, divAt coins ws j x = d := ⟨_, rfl⟩
                rw [hd] at y3 hdb
                have Hd := Lib.hid hd
                have hst := (Oj.out.stored x (.int .i64 (d + 1))).1
                rw [rowF_set, rowF_congr (g := divAt coins ws (j + 1)) (fun c hc => by rw [divAt_step hxn hc Hrk.out, Hd.out])] at hst
                have Hst := Lib.hid hst
                clear hx hrk hd hst
                go_wp2_with fail
                go_roundw
                case rel =>
                  refine ⟨j + 1, by omega, by go_num, hbj.setCell (p := ⟨g8, x, none⟩) (by simp only; omega) _, Hst.out, fun i y hy => ?_⟩
                  rw [World.cell?_setCell_other _ _ _ _ (by simp <;> omega)]
                  exact Hcj.out i y hy
                case measure => simp [intOf]; omega
              · have hjL : (j : Int) = L := by omega
                have hj2 : (leftAll coins ws).toNat = j := by rw [HL.out]; omega
                have Hj2 := Lib.hid hj2
                clear hj2
                go_wp2_with fail
                go_ret2
                refine ⟨some ⟨g8, 0, none⟩, c8, rfl, ?_, hbr.trans (hbj.mono hbr.size)⟩
                rw [Hj2.out]
                exact own_mono Oj.out hbr.size
  · obtain ⟨wo, rfl⟩ : ∃ wo : World, wo = w1 := ⟨_, rfl⟩
    have hbr := hb1
    rw [rowF_congr (g := wAt ws) (fun c hc => by rw [divW_get hc, if_neg hz])] at hown1
    have Hown := Lib.hid hown1
    have hsz0 : (sumL ws == 0) = false := beq_eq_false_iff_ne.2 hz
    clear hown1
    go_wp2_with fail
    refine hs1.mono ?_; rintro e w2 ⟨rfl, rfl⟩
    clear hs1 hz
    have hown0 := Hown.out
    have hsum : Calls Tryz.prog 39 #[.slice (some ⟨g, 0, none⟩) ws.length c1] wo (Same wo (.int .i64 (wholeW ws))) := by
      have hn5 := hown0
      rw [← rowF_divW] at hn5
      have := sum_same _ (divW ws) _ (nums_of_own (n := (divW ws).length) (by rw [divW_length]; exact hn5)) hokW
      exact this
    have hwb := H.out.whole
    have hwz : (wholeW ws == 0) = false := beq_eq_false_iff_ne.2 (by omega)
    obtain ⟨wh, hwh⟩ : ∃ x, wholeW ws = x := ⟨_, rfl⟩
    have Hwh := Lib.hid hwh
    rw [hwh] at hwb hwz hsum
    clear hwh hown0
    go_wp2_with (go_at_call 39; refine hsum.mono ?_; rintro e w2 ⟨rfl, rfl⟩)
    clear hsum
    go_loopw [9, 10, 11, 51] (fun l x y i wq => ∃ (k : Nat) (A8 A9 : Option Addr) (c8 c9 : Nat), k ≤ ws.length ∧ i = .int .i64 k ∧ l = .int .i64 (leftK coins ws k) ∧ x = .slice A8 k c8 ∧ y = .slice A9 k c9 ∧ Below wo.heap.size wo wq ∧ wq.ownsRow wo.heap.size 3 1 (.slice A8 k c8) k (rowF k (quoAt coins ws)) ∧ wq.ownsRow wo.heap.size 108 2 (.slice A9 k c9) k (rowR k (remAt coins ws))) (fun l x y i wq => ws.length - (intOf i).toNat)
    case atStart => exact ⟨0, none, none, 0, 0, by omega, rfl, rfl, rfl, rfl, Below.refl _ _, World.ownsRow_nil _ _ _ _, World.ownsRow_nil _ _ _ _⟩
    case round =>
      obtain ⟨k, A8, A9, c8, c9, hk', rfl, rfl, rfl, rfl, hbq, own8, own9⟩ := hrel
      obtain ⟨wp, rfl⟩ : ∃ wp : World, wp = wr := ⟨_, rfl⟩
      have hsz := hbq.size
      have HownQ := Lib.hid (own_below Hown.out hbq)
      by_cases hlt : k < ws.length
      · have hltI : (k : Int) < (ws.length : Int) := by omega
        have j0 : (0 : Int) ≤ (k : Int) := by omega
        have j1 : (k : Int) < (k : Int) + 1 := by omega
        have r0 := HownQ.out.cellAt k (by omega)
        rw [rowF_get hlt] at r0
        have hxb := H.out.wat k
        have hpb := H.out.prod k
        have hqb := H.out.quo k
        have hlb := left_bd H.out k (by omega)
        have Hq : Hid (quoAt coins ws k = coins * wAt ws k / wh) := by show _ = _; rw [← Hwh.out]; rfl
        have Hr : Hid (remAt coins ws k = coins * wAt ws k % wh) := by show _ = _; rw [← Hwh.out]; rfl
        obtain ⟨x, hx⟩ : ∃ x, wAt ws k = x := ⟨_, rfl⟩
        rw [hx] at r0 hxb hpb Hq Hr
        have Hx := Lib.hid hx
        clear hx
        have Hl : Hid (leftK coins ws (k + 1) = leftK coins ws k - quoAt coins ws k) := rfl
        rw [Hq.out] at Hl hqb
        obtain ⟨lk, hlk⟩ : ∃ z, leftK coins ws k = z := ⟨_, rfl⟩
        rw [hlk] at Hl hlb ⊢
        clear hlk
        go_upto_region 21 with (at_builtin; refine wpList_append_src _ rfl (.tmp 56) (.tmp 62) 29 rfl wo.heap.size 3 i0 _ 1 8 Tryz.underlying29 hi0 hz0 hz1 hz2 rfl (by omega) (.slice A8 k c8) k _ rfl (own8.alloc _) (some ⟨wp.heap.size, 0, none⟩) 1 1 [.int .i64 (coins * x / wh)] rfl (src_new wp [.int .i64 (coins * x / wh)] 3 1 1 rfl) (by simp [Value.oneCell']) (by simp [maxLen]; omega) (by omega) (by simp; omega) ?_; intro v20 w20 hown20 hg20 hat20)
        have hg20' : (wp.alloc (.cells #[.int .i64 (coins * x / wh)] 3)).grownBy w20 (Value.slice A8 k c8).ownBlock := hg20
        have hb20 := below_grown (hbq.alloc hbq.size (.cells #[.int .i64 (coins * x / wh)] 3)) hg20' (by simp; omega) (own8.alloc _) (Nat.le_refl _)
        have own20 := (own9.alloc (.cells #[.int .i64 (coins * x / wh)] 3)).kept hg20' (ap83 (own9.alloc _) (own8.alloc (.cells #[.int .i64 (coins * x / wh)] 3)))
        obtain ⟨A20, c20, rfl⟩ := own_form hown20
        have r1 := (own_below Hown.out hb20).cellAt k (by omega)
        rw [rowF_get hlt, Hx.out] at r1
        clear hg20 hat20
        go_upto_region 22 with (at_builtin; refine wpList_append_src _ rfl (.tmp 64) (.tmp 72) 106 rfl wo.heap.size 108 i8 _ 2 16 Tryz.underlying106 hi8 hy0 hy1 hy2 rfl (by omega) (.slice A9 k c9) k _ rfl (own20.alloc _) (some ⟨w20.heap.size, 0, none⟩) 1 1 [.int .i64 (k : Int), .int .i64 (coins * x % wh)] rfl (src_new w20 [.int .i64 (k : Int), .int .i64 (coins * x % wh)] 108 1 2 rfl) (by simp [Value.oneCell']) (by simp [maxLen]; omega) (by omega) (by have := hb20.size; simp; omega) ?_; intro v21 w21 hown21 hg21 hat21)
        have hg21' : (w20.alloc (.cells #[.int .i64 (k : Int), .int .i64 (coins * x % wh)] 108)).grownBy w21 (Value.slice A9 k c9).ownBlock := hg21
        have hb21 := below_grown (hb20.alloc hb20.size (.cells #[.int .i64 (k : Int), .int .i64 (coins * x % wh)] 108)) hg21' (by have := hb20.size; simp; omega) (own20.alloc _) (Nat.le_refl _)
        have own21 := (hown20.alloc (.cells #[.int .i64 (k : Int), .int .i64 (coins * x % wh)] 108)).kept hg21' (ap38 (hown20.alloc _) (own20.alloc (.cells #[.int .i64 (k : Int), .int .i64 (coins * x % wh)] 108)))
        obtain ⟨A21, c21, rfl⟩ := own_form hown21
        obtain ⟨g20, rfl, hg20a, hg20b⟩ := own_some own21 (by omega)
        have r2 := own21.cellAt k (by omega)
        rw [← Hq.out, ← rowF_succ, rowF_get (by omega), Hq.out] at r2
        clear hg21 hat21
        go_wp2_with fail
        rw [← Hq.out, ← rowF_succ] at own21
        rw [← Hr.out, ← rowR_succ] at hown21
        go_roundw
        case rel => exact ⟨k + 1, some ⟨g20, 0, none⟩, A21, c20, c21, by omega, by go_num, by rw [Hl.out], rfl, rfl, hb21, own21, hown21⟩
        case measure => simp [intOf]; omega
      · obtain rfl : k = ws.length := by omega
        obtain ⟨g8, rfl, hg8, hgl8⟩ := own_some own8 (by omega)
        obtain ⟨g9, rfl, hg9, hgl9⟩ := own_some own9 (by omega)
        have hne : g8 ≠ g9 := by
          rcases ap38 own8 own9 with h | h
          · simp [Value.ownBlock] at h
          · intro e; exact h (by rw [e]; rfl)
        have hsortc := sortRest_any (remAt coins ws) ws.length g9 c9 wo.heap.size wp (by omega) (fun c hc => ⟨(H.out.rem c).1, by have h1 := (H.out.rem c).2; have h2 := H.out.whole; omega⟩) own9
        have hle := H.out.left
        obtain ⟨L, hL⟩ : ∃ x, leftAll coins ws = x := ⟨_, rfl⟩
        have hLk : leftK coins ws ws.length = L := hL
        rw [hL] at hle
        rw [hLk]
        have HL := Lib.hid hL
        clear hL hLk
        go_wp2_with fail
        refine hsortc.mono ?_; rintro e w30 ⟨rfl, od, hord, hgs, hcell⟩
        have o8 := own8.kept hgs (.inr (by intro e; exact hne (Option.some.inj e)))
        have hb30 := below_grown (v := .slice (some ⟨g9, 0, none⟩) ws.length c9) hbq hgs hsz own9 (Nat.le_refl _)
        have Hord := Lib.hid hord
        have Hcell := Lib.hid hcell
        rw [rowF_congr (g := divAt coins ws 0) (fun c _ => (divAt_zero coins ws c).symm)] at o8
        clear hsortc own8 own9 hord hcell hgs
        go_wp2_with fail
        go_loopw [84] (fun i wq => ∃ j : Nat, (j : Int) ≤ L ∧ i = .int .i64 j ∧ Below wo.heap.size wo wq ∧ wq.ownsRow wo.heap.size 3 1 (.slice (some ⟨g8, 0, none⟩) ws.length c8) ws.length (rowF ws.length (divAt coins ws j)) ∧ ∀ (i x : Nat), od[i]? = some x → wq.cell? ⟨g9, i * 2, none⟩ = some (.int .i64 (x : Int))) (fun i wq => (L - intOf i).toNat)
        case atStart => exact ⟨0, by omega, rfl, hb30, o8, Hcell.out⟩
        case round =>
          obtain ⟨j, hj, rfl, hbj, oj, hcj⟩ := hrel
          obtain ⟨wj, rfl⟩ : ∃ wj : World, wj = wr := ⟨_, rfl⟩
          have Oj := Lib.hid oj
          have Hcj := Lib.hid hcj
          clear oj hcj
          by_cases hlt : (j : Int) < L
          · have hjn : (j : Int) < (ws.length : Int) := by omega
            have hj0 : (0 : Int) ≤ (j : Int) := by omega
            obtain ⟨x, hx⟩ : ∃ x, od[j]? = some x := ⟨_, List.getElem?_eq_getElem (by rw [Hord.out.length]; omega)⟩
            have hxn := Hord.out.lt hx
            have hxI : (x : Int) < (ws.length : Int) := by omega
            have hx0 : (0 : Int) ≤ (x : Int) := by omega
            have hrk := Hord.out.rank_of hx
            have Hrk := Lib.hid hrk
            have y1 := Hcj.out j x hx
            have y3 := Oj.out.cellAt x (by omega)
            rw [rowF_get hxn] at y3
            have z3 := Oj.out.frozenAt x
            have hdb : 0 ≤ divAt coins ws j x ∧ divAt coins ws j x ≤ 10000000000001 := by
              have := H.out.quo x
              unfold divAt
              split <;> omega
            obtain ⟨d, hd⟩ : ∃ d, divAt coins ws j x = d := ⟨_, rfl⟩
            rw [hd] at y3 hdb
            have Hd := Lib.hid hd
            have hst := (Oj.out.stored x (.int .i64 (d + 1))).1
            rw [rowF_set, rowF_congr (g := divAt coins ws (j + 1)) (fun c hc => by rw [divAt_step hxn hc Hrk.out, Hd.out])] at hst
            have Hst := Lib.hid hst
            clear hx hrk hd hst
            go_wp2_with fail
            go_roundw
            case rel =>
              refine ⟨j + 1, by omega, by go_num, hbj.setCell (p := ⟨g8, x, none⟩) (by simp only; omega) _, Hst.out, fun i y hy => ?_⟩
              rw [World.cell?_setCell_other _ _ _ _ (by simp <;> omega)]
              exact Hcj.out i y hy
            case measure => simp [intOf]; omega
          · have hjL : (j : Int) = L := by omega
            have hj2 : (leftAll coins ws).toNat = j := by rw [HL.out]; omega
            have Hj2 := Lib.hid hj2
            clear hj2
            go_wp2_with fail
            go_ret2
            refine ⟨some ⟨g8, 0, none⟩, c8, rfl, ?_, hbr.trans (hbj.mono hbr.size)⟩
            rw [Hj2.out]
            exact own_mono Oj.out hbr.size

end Go.Proofs.YtckgapeednokjaaGreat
