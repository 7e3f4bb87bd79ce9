import Derived.Test.YtobeffjdfhkjeaaPp
import Derived.Test.YtobeffjdfhkjeaaOa
set_option linter.unusedVariables false
set_option linter.unusedSimpArgs false
namespace Go.Proofs.Ytobeffjdfhkjeaa
open Go Go.Proofs Go.RowKit

theorem RowsOwn.one {w : World} {base : Nat} {u : Value} {l : List Int} (hu : w.ownsRow base 3 1 u l.length (l.map (.int .i64))) : RowsOwn w base [u] [l] := by
  have h0 : RowsOwn w base [] [] := ⟨rfl, by simp⟩
  exact h0.snoc hu

theorem nums_snoc {w : World} {base : Nat} {v : Value} {l : List Int} {x : Int} (h : w.ownsRow base 3 1 v (l.length + 1) (l.map (.int .i64) ++ [.int .i64 x])) : NumsAt .i64 w v (l ++ [x]) := by
  have e1 : l.length + 1 = (l ++ [x]).length := by simp
  have e2 : l.map (Value.int .i64) ++ [.int .i64 x] = (l ++ [x]).map (.int .i64) := by simp
  rw [e1, e2] at h
  exact nums_of_own h

set_option maxRecDepth 100000 in
set_option maxHeartbeats 3200000 in
theorem upto_any : ∀ (d most m : Nat) (v : Value) (b : List Int) (w : World), NumsAt .i64 w v b → b.length + d = m → m ≤ 5 → most ≤ 4 →
    Calls Try.prog 65 #[.int .i64 m, .int .i64 most, v] w (GivesRows w (uptoL d most b))
  | 0, most, m, v, b, w, hv, hm, hm5, hmo => by
    obtain ⟨A, c, rfl, hc, hcm⟩ := hv.form
    obtain ⟨i3, hi3, hx0, hx1, hx2⟩ := info_parts info3
    have hm1 : ((b.length : Int) == (m : Int)) = true := beq_iff_eq.2 (by omega)
    have hb5 : b.length ≤ 5 := by omega
    have hb0 : Below w.heap.size w (w.alloc (.cells #[] 3)) := (Below.refl _ _).alloc (Nat.le_refl _) _
    have ho : (w.alloc (.cells #[] 3)).ownsRow w.heap.size 3 1 (.slice (some ⟨w.heap.size, 0, none⟩) 0 0) 0 [] := World.ownsRow_lit w #[] 0 (Nat.le_refl _) (by simp [maxLen]) (by simp)
    clear hm
    go_enter Try.func65, Try.ntmps65
    go_wp2_with (at_builtin; refine wpList_append_src _ rfl (.tmp 13) (.tmp 14) 35 rfl w.heap.size 3 i3 _ 1 8 Try.underlying35 hi3 hx0 hx1 hx2 rfl (by omega) _ 0 [] rfl ho A b.length c (b.map (.int .i64)) rfl (src_of_nums (hv.below hb0)) (ints_one b) (by simp [maxLen]; omega) (by omega) (by simp) ?_; intro v1 w1 hown1 hg1 hat1; rw [Nat.zero_add, List.nil_append] at hown1; obtain ⟨A1, c1, rfl⟩ := own_form hown1)
    go_ret
    have hb1 : Below w.heap.size w w1 := below_grown hb0 hg1 (by simp) ho (Nat.le_refl _)
    have hs1 := hb1.size
    have hl := World.ownsRow_lit (base := w.heap.size) (e := 35) (size := 1) w1 #[.slice A1 b.length c1] 1 hs1 (by simp [maxLen]) (by simp)
    refine ⟨some ⟨w1.heap.size, 0, none⟩, 1, [.slice A1 b.length c1], rfl, hl, ?_, hb1.alloc hs1 _⟩
    exact (RowsOwn.one hown1).below ((Below.refl _ _).alloc (Nat.le_refl _) _)
  | d + 1, most, m, v, b, w, hv, hm, hm5, hmo => by
    obtain ⟨A, c, rfl, hc, hcm⟩ := hv.form
    obtain ⟨i3, hi3, hx0, hx1, hx2⟩ := info_parts info3
    obtain ⟨i5, hi5, hy0, hy1, hy2⟩ := info_parts info35
    have hm1 : ((b.length : Int) == (m : Int)) = false := beq_eq_false_iff_ne.2 (by omega)
    have hb5 : b.length ≤ 5 := by omega
    have hd5 : d ≤ 4 := by omega
    have Hm := Lib.hid hm
    clear hm
    have hpow : 5 ^ d ≤ 625 := by
      have h := Nat.pow_le_pow_right (show 0 < 5 by omega) hd5
      simpa using h
    go_enter Try.func65, Try.ntmps65
    go_wp2
    go_loopw [7, 8] (fun x i wr => ∃ (n : Nat) (A2 : Option Addr) (c2 : Nat) (us : List Value), n ≤ most + 1 ∧ i = .int .i64 n ∧ x = .slice A2 (uptoP d most b n).length c2 ∧ Below w.heap.size w wr ∧
        wr.ownsRow w.heap.size 35 1 (.slice A2 (uptoP d most b n).length c2) (uptoP d most b n).length us ∧ RowsOwn wr w.heap.size us (uptoP d most b n)) (fun x i wr => most + 1 - (intOf i).toNat)
    case atStart => exact ⟨0, none, 0, [], by omega, rfl, rfl, Below.refl _ _, World.ownsRow_nil _ _ _ _, ⟨by simp [uptoP], by intro j l h; simp [uptoP] at h⟩⟩
    case round =>
      obtain ⟨n, A2, c2, us, hn, rfl, rfl, hb, hown, hro⟩ := hrel
      obtain ⟨wo, rfl⟩ : ∃ wo : World, wo = wr := ⟨_, rfl⟩
      have hpl := uptoP_len d most b hmo n hn
      have hpl2 : n * 5 ^ d ≤ 5 * 625 := Nat.mul_le_mul (by omega) hpow
      obtain ⟨p, hp⟩ : ∃ p, (uptoP d most b n).length = p := ⟨_, rfl⟩
      rw [hp] at hown hpl ⊢
      have Hp := Lib.hid hp
      have Hro := Lib.hid hro
      clear hp hro
      by_cases hlt : n ≤ most
      · have hltI : (n : Int) ≤ (most : Int) := by omega
        have hz1 : ((most : Int) - (n : Int)) = ((most - n : Nat) : Int) := by omega
        have hb1 : Below wo.heap.size wo (wo.alloc (.cells #[] 3)) := (Below.refl _ _).alloc (Nat.le_refl _) _
        have ho1 : (wo.alloc (.cells #[] 3)).ownsRow wo.heap.size 3 1 (.slice (some ⟨wo.heap.size, 0, none⟩) 0 0) 0 [] := World.ownsRow_lit wo #[] 0 (Nat.le_refl _) (by simp [maxLen]) (by simp)
        have hv1 := (hv.below hb).below hb1
        have Hz1 := Lib.hid hz1
        clear hz1
        have hrec : ∀ (W : World) (v4 : Value), NumsAt .i64 W v4 (b ++ [(n : Int)]) → Calls Try.prog 65 #[.int .i64 (m : Int), .int .i64 ((most : Int) - (n : Int)), v4] W (GivesRows W (uptoL d (most - n) (b ++ [(n : Int)]))) := fun W v4 h => by
          rw [Hz1.out]
          exact upto_any d (most - n) m v4 (b ++ [(n : Int)]) W h (by have := Hm.out; simp; omega) hm5 (by omega)
        have hsz := hb.size
        have hu5 := uptoL_len d (most - n) (b ++ [(n : Int)]) (by omega)
        go_wp2_with (first
          | (at_builtin; refine wpList_append_src _ rfl (.tmp 27) (.tmp 28) 35 rfl wo.heap.size 3 i3 _ 1 8 Try.underlying35 hi3 hx0 hx1 hx2 rfl (by omega) _ 0 [] rfl ho1 A b.length c (b.map (.int .i64)) rfl (src_of_nums hv1) (ints_one b) (by simp [maxLen]; omega) (by omega) (by simp) ?_; intro v3 w3 hown3 hg3 hat3; rw [Nat.zero_add, List.nil_append] at hown3; obtain ⟨A3, c3, rfl⟩ := own_form hown3; have hb3 := below_grown hb1 hg3 (by simp) ho1 (Nat.le_refl _); have hs3 := hb3.size)
          | (at_builtin; refine wpList_append_src _ rfl (.tmp 29) (.tmp 31) 35 rfl wo.heap.size 3 i3 _ 1 8 Try.underlying35 hi3 hx0 hx1 hx2 rfl (by omega) _ b.length _ rfl (hown3.alloc _) (some ⟨w3.heap.size, 0, none⟩) 1 1 [.int .i64 (n : Int)] rfl (src_new w3 [.int .i64 (n : Int)] 3 1 1 rfl) (by simp [Value.oneCell']) (by simp [maxLen]; omega) (by omega) (by simp; omega) ?_; intro v4 w4 hown4 hg4 hat4; obtain ⟨A4, c4, rfl⟩ := own_form hown4; have hb4 := below_grown (hb3.alloc hs3 _) hg4 (by simp; omega) (hown3.alloc _) (Nat.le_refl _); have hs4 := hb4.size; have hn4 := nums_snoc hown4)
          | (go_at_call 65; refine (hrec _ _ hn4).mono ?_; rintro e w5 ⟨A5, c5, us5, rfl, hown5, hro5, hb5'⟩; have hbo5 := hb4.trans (hb5'.mono hs4); have hs5 := hb5'.size; have hownO := own_below hown hbo5)
          | (at_builtin; refine wpList_append_src _ rfl (.tmp 22) (.tmp 33) 25 rfl w.heap.size 35 i5 _ 1 24 Try.underlying25 hi5 hy0 hy1 hy2 rfl (by omega) _ p us rfl hownO A5 (uptoL d (most - n) (b ++ [(n : Int)])).length c5 us5 rfl (src_of_own hown5) (rows_one hro5) (by simp [maxLen]; omega) (by omega) (by omega) ?_; intro v6 w6 hown6 hg6 hat6; obtain ⟨A6, c6, rfl⟩ := own_form hown6))
        have hbw5 : Below w.heap.size w w5 := hb.trans (hbo5.mono hsz)
        have hg7 : w5.grownBy w6 (Value.slice A2 p c2).ownBlock := hg6
        have hbw6 : Below w.heap.size w w6 := below_grown hbw5 hg7 hbw5.size hownO (Nat.le_refl _)
        go_roundw
        case rel =>
          have e2 := uptoP_succ d most b n
          have e3 : (uptoP d most b (n + 1)).length = p + (uptoL d (most - n) (b ++ [(n : Int)])).length := by rw [e2, List.length_append, Hp.out]
          refine ⟨n + 1, A6, c6, us ++ us5, by omega, by go_num, by rw [e3], hbw6, ?_, ?_⟩
          · rw [e3]; exact hown6
          · rw [e2]
            exact rows_append ((Hro.out.below hbo5).kept hownO (by decide) hg7) ((hro5.mono (by omega)).kept hownO (by decide) hg7)
        case measure => simp [intOf]; omega
      · obtain rfl : n = most + 1 := by omega
        have hlt' : ¬ ((most : Int) + 1 ≤ (most : Int)) := by omega
        go_wp2
        go_ret
        rw [← Hp.out]
        rw [← Hp.out] at hown
        exact ⟨A2, c2, us, rfl, hown, Hro.out, hb⟩
end Go.Proofs.Ytobeffjdfhkjeaa
