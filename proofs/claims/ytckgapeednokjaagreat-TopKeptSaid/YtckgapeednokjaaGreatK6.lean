import Derived.Test.YtckgapeednokjaaGreatK2
import Derived.Test.YtckgapeednokjaaGreatK1
set_option linter.unusedVariables false
set_option linter.unusedSimpArgs false
namespace Go.Proofs.YtckgapeednokjaaGreat
open Go Go.Proofs Go.RowKit

theorem infoR : (Tryz.prog.info? 29).map (fun i => (i.zero, i.size, i.bytes)) = some (some (.slice none 0 0), 1, 24) := by kernel_rfl

/-- A new slice of ints. -/
def GivesInts (w : World) (l : List Int) (e : Ending) (w' : World) : Prop := ∃ A c, e = .returned (.slice A l.length c) ∧ w'.ownsRow w.heap.size 3 1 (.slice A l.length c) l.length (l.map (.int .i64)) ∧ Below w.heap.size w w'

theorem copy_any (v : Value) (l : List Int) (w : World) (hv : NumsAt .i64 w v l) (hl : l.length ≤ 1000000) : Calls Tryz.prog 101 #[v] w (GivesInts w l) := by
  obtain ⟨A, c, rfl, hc, hm⟩ := hv.form
  obtain ⟨i0, hi0, hz0, hz1, hz2⟩ := info_parts infoI
  have hb0 : Below w.heap.size w (w.alloc (.cells #[] 3)) := (Below.refl _ _).alloc (Nat.le_refl _) _
  have ho : (w.alloc (.cells #[] 3)).ownsRow w.heap.size 3 1 (.slice (some ⟨w.heap.size, 0, none⟩) 0 0) 0 [] := World.ownsRow_lit w #[] 0 (Nat.le_refl _) (by simp [maxLen]) (by simp)
  go_enter Tryz.func101, Tryz.ntmps101
  go_wp2_with (at_builtin; refine wpList_append_src _ rfl (.tmp 3) (.tmp 4) 29 rfl w.heap.size 3 i0 _ 1 8 Tryz.underlying29 hi0 hz0 hz1 hz2 rfl (by omega) _ 0 [] rfl ho A l.length c (l.map (.int .i64)) rfl (src_of_nums (hv.below hb0)) (ints_one l) (by simp [maxLen]; omega) (by omega) (by simp) ?_; intro v1 w1 hown1 hg1 hat1)
  go_ret
  rw [Nat.zero_add, List.nil_append] at hown1
  obtain ⟨A1, c1, rfl⟩ := own_form hown1
  exact ⟨A1, c1, rfl, hown1, below_grown hb0 hg1 (by simp) ho (Nat.le_refl _)⟩

/-- Each element of a row of slices owns its ints. -/
def RowsOwn (w : World) (base : Nat) (us : List Value) (ll : List (List Int)) : Prop :=
  us.length = ll.length ∧ ∀ (j : Nat) (l : List Int), ll[j]? = some l → ∃ u, us[j]? = some u ∧ w.ownsRow base 3 1 u l.length (l.map (.int .i64))

theorem RowsOwn.kept {w w' : World} {base base' : Nat} {us : List Value} {ll : List (List Int)} {v : Value} {e : TypeId} {n : Nat} {xs : List Value} {size : Nat} (h : RowsOwn w base us ll) (hv : w.ownsRow base' e size v n xs) (hne : e ≠ 3)
    (hg : w.grownBy w' v.ownBlock) : RowsOwn w' base us ll :=
  ⟨h.1, fun j l hl => by
    obtain ⟨u, h1, h2⟩ := h.2 j l hl
    exact ⟨u, h1, h2.kept hg (own_apart h2 hv (Ne.symm hne))⟩⟩
theorem RowsOwn.below {w w' : World} {base : Nat} {us : List Value} {ll : List (List Int)} (h : RowsOwn w base us ll) (hb : Below w.heap.size w w') : RowsOwn w' base us ll :=
  ⟨h.1, fun j l hl => by
    obtain ⟨u, h1, h2⟩ := h.2 j l hl
    exact ⟨u, h1, own_below h2 hb⟩⟩
theorem RowsOwn.snoc {w : World} {base : Nat} {us : List Value} {ll : List (List Int)} {u : Value} {l : List Int} (h : RowsOwn w base us ll) (hu : w.ownsRow base 3 1 u l.length (l.map (.int .i64))) : RowsOwn w base (us ++ [u]) (ll ++ [l]) := by
  refine ⟨by simp [h.1], fun j l' hl => ?_⟩
  rw [List.getElem?_append] at hl
  split at hl
  · obtain ⟨x, h1, h2⟩ := h.2 j l' hl
    exact ⟨x, by rw [List.getElem?_append_left (by rw [h.1]; assumption)]; exact h1, h2⟩
  · rename_i hj
    have e : j = ll.length := by
      have := (List.getElem?_eq_some_iff.1 hl).1
      simp at this
      omega
    subst e
    simp at hl
    subst hl
    exact ⟨u, by rw [← h.1]; simp, hu⟩
theorem RowsOwn.mono {w : World} {base base' : Nat} {us : List Value} {ll : List (List Int)} (h : RowsOwn w base us ll) (hb : base' ≤ base) : RowsOwn w base' us ll :=
  ⟨h.1, fun j l hl => by
    obtain ⟨u, h1, h2⟩ := h.2 j l hl
    exact ⟨u, h1, own_mono h2 hb⟩⟩

theorem rows_of_own {w : World} {base base' : Nat} {e : TypeId} {v : Value} {n : Nat} {us : List Value} {ll : List (List Int)} (h : w.ownsRow base e 1 v n us) (hr : RowsOwn w base' us ll) : RowsAt w v ll := by
  have hn : ll.length = n := by rw [← hr.1]; simpa using h.1
  rcases h.2 with ⟨rfl, h0⟩ | ⟨g, cap, cur, rfl, _, hg, hc, hm, hs, ht⟩
  · have : ll.length = 0 := by omega
    exact ⟨none, 0, by rw [this], by omega, by simp [maxLen], fun hp => by omega⟩
  · refine ⟨some ⟨g, 0, none⟩, cap, by rw [hn], by omega, hm, fun hp => ⟨g, 0, rfl, fun k hk => ?_⟩⟩
    obtain ⟨u, h1, h2⟩ := hr.2 k ll[k] (List.getElem?_eq_getElem hk)
    refine ⟨u, ?_, ?_⟩
    · simp only [Nat.zero_add]
      rw [h.cellAt k (by omega), h1]
    · rw [List.getElem?_eq_getElem hk]
      exact nums_of_own h2

/-- A new slice of new slices of ints. -/
def GivesRows (w : World) (ll : List (List Int)) (e : Ending) (w' : World) : Prop :=
  ∃ A c us, e = .returned (.slice A ll.length c) ∧ w'.ownsRow w.heap.size 29 1 (.slice A ll.length c) ll.length us ∧ RowsOwn w' w.heap.size us ll ∧ Below w.heap.size w w'

theorem rows_any (v : Value) (ll : List (List Int)) (w : World) (hv : RowsAt w v ll) (hl : ll.length ≤ 1000) (hll : ∀ (j : Nat) (l : List Int), ll[j]? = some l → l.length ≤ 1000) : Calls Tryz.prog 59 #[v] w (GivesRows w ll) := by
  obtain ⟨A, c, rfl, hc, hm⟩ := hv.form
  obtain ⟨i0, hi0, hz0, hz1, hz2⟩ := info_parts infoR
  have Hll := Lib.hid hll
  clear hll
  go_enter Tryz.func59, Tryz.ntmps59
  go_wp2
  go_loopw [3, 4] (fun x i wr => ∃ (k : Nat) (A' : Option Addr) (c' : Nat) (us : List Value), k ≤ ll.length ∧ i = .int .i64 k ∧ x = .slice A' k c' ∧ Below w.heap.size w wr ∧ wr.ownsRow w.heap.size 29 1 (.slice A' k c') k us ∧
      RowsOwn wr w.heap.size us (ll.take k)) (fun x i wr => ll.length - (intOf i).toNat)
  case atStart => exact ⟨0, none, 0, [], by omega, rfl, rfl, Below.refl _ _, World.ownsRow_nil _ _ _ _, ⟨by simp, by intro j l h; simp at h⟩⟩
  case round =>
    obtain ⟨k, A', c', us, hk, rfl, rfl, hb, hown, hro⟩ := hrel
    by_cases hlt : k < ll.length
    · obtain ⟨b, o, l, x, rfl, hl, dl, hx, _⟩ := (hv.below hb).at_ hlt
      have hl1 := Hll.out k l hl
      have Hl := Lib.hid hl
      clear hl
      have Hro := Lib.hid hro
      clear hro
      obtain ⟨B, C, rfl, hC, hC'⟩ := hx.form
      go_wp2_with (first
        | (go_at_call 101; refine (copy_any _ l _ hx (by omega)).mono ?_; rintro e w1 ⟨A1, c1, rfl, hox, hb1⟩; have hown1 := own_below hown hb1)
        | (at_builtin; refine wpList_append_src _ rfl (.tmp 11) (.tmp 17) 45 rfl w.heap.size 29 i0 _ 1 24 Tryz.underlying45 hi0 hz0 hz1 hz2 rfl (by omega) _ k us rfl (hown1.alloc _) (some ⟨w1.heap.size, 0, none⟩) 1 1 [.slice A1 l.length c1] rfl (src_new w1 [.slice A1 l.length c1] 29 1 1 rfl) (by simp [Value.oneCell']) (by simp [maxLen]; omega) (by omega) (by have := hb.size; have := hb1.size; simp; omega) ?_; intro v2 w2 hown2 hg2 hat2; obtain ⟨A2, c2, rfl⟩ := own_form hown2))
      have hbw1 : Below w.heap.size w w1 := hb.trans (hb1.mono hb.size)
      have hba : Below w.heap.size w (w1.alloc (.cells #[.slice A1 l.length c1] 29)) := hbw1.alloc hbw1.size _
      have hg3 : (w1.alloc (.cells #[.slice A1 l.length c1] 29)).grownBy w2 (Value.slice A' k c').ownBlock := hg2
      clear hg2
      go_roundw
      case rel =>
        refine ⟨k + 1, A2, c2, us ++ [.slice A1 l.length c1], by omega, by go_num, rfl, below_grown hba hg3 (by have := hbw1.size; simp; omega) (hown1.alloc _) (Nat.le_refl _), hown2, ?_⟩
        rw [List.take_add_one, Hl.out]
        have h1 : RowsOwn (w1.alloc (.cells #[.slice A1 l.length c1] 29)) w.heap.size us (ll.take k) := (Hro.out.below hb1).below ((Below.refl _ _).alloc (Nat.le_refl _) _)
        exact (h1.kept (hown1.alloc _) (by decide) hg3).snoc (((own_mono hox hb.size).alloc _).kept hg3 (own_apart hox hown1 (by decide)))
      case measure => simp [intOf]; omega
    · have : k = ll.length := by omega
      subst this
      go_wp2
      go_ret
      rw [List.take_length] at hro
      exact ⟨A', c', us, rfl, hown, hro, hb⟩

def shortB (ll : List (List Int)) : Bool := decide (ll.length ≤ 12) && ll.all fun l => decide (l.length ≤ 14)

theorem shortR_any (v : Value) (ll : List (List Int)) (w : World) (hv : RowsAt w v ll) : Calls Tryz.prog 51 #[v] w (Gives w (.bool (shortB ll))) := by
  obtain ⟨A, c, rfl, hc, hm⟩ := hv.form
  go_enter Tryz.func51, Tryz.ntmps51
  go_wp2
  go_loop [3] (fun i => ∃ k : Nat, k ≤ ll.length ∧ k ≤ 13 ∧ i = .int .i64 k ∧ (∀ (j : Nat) (l : List Int), j < k → ll[j]? = some l → l.length ≤ 14)) (fun i => ll.length - (intOf i).toNat)
  case atStart => exact ⟨0, by omega, by omega, rfl, by intro j s h; omega⟩
  case round =>
    obtain ⟨k, hk, hk13, rfl, hall⟩ := hrel
    have Hall := Lib.hid hall
    clear hall
    by_cases hlt : k < ll.length
    · by_cases h13 : k < 13
      · obtain ⟨b, o, l, x, rfl, hl, dl, hx, _⟩ := hv.at_ hlt
        obtain ⟨A', c', rfl, hc', hm'⟩ := hx.form
        have Hl := Lib.hid hl
        clear hl
        have hk0 : (k : Int) < 13 := by omega
        by_cases h14 : l.length ≤ 14
        · have q14 : (l.length : Int) ≤ 14 := by omega
          go_wp2
          go_round
          case rel =>
            refine ⟨k + 1, by omega, by omega, by go_num, fun j s hj hs => ?_⟩
            by_cases e : j = k
            · subst e
              rw [Hl.out] at hs
              cases hs
              omega
            · exact Hall.out j s (by omega) hs
          case measure => simp [intOf]; omega
        · have q14 : 14 < (l.length : Int) := by omega
          go_wp2
          go_ret
          refine gives_bool ?_ (Below.refl _ _)
          rw [shortB, not_all_of Hl.out (by simp; omega)]
          simp
      · go_wp2
        go_ret
        refine gives_bool ?_ (Below.refl _ _)
        rw [shortB, decide_eq_false (by omega : ¬ ll.length ≤ 12)]
        (try simp) <;> omega
    · go_wp2
      go_ret
      refine gives_bool ?_ (Below.refl _ _)
      by_cases h12 : ll.length ≤ 12
      · rw [shortB, all_of fun j s hj hs => by simpa using Hall.out j s (by omega) hs]
        (try simp) <;> omega
      · rw [shortB, decide_eq_false h12]
        (try simp) <;> omega

end Go.Proofs.YtckgapeednokjaaGreat
namespace Go.Proofs.YtckgapeednokjaaGreat
open Go Go.Proofs Go.RowKit

/-! ### Has, Segments -/
set_option maxRecDepth 100000 in
theorem Segments_any (d : DDay) (u z : Value) (w : World) (hda : DayAt w u z d) (hm : Mild d) :
    Calls Tryz.prog 52 #[.agg #[.int .i64 d.law.piece, .int .i64 d.law.drive, .int .i64 d.law.spread, .int .i64 d.law.brk, .int .i64 d.law.on, .int .i64 d.law.off, .int .i64 d.law.least, .int .i64 d.law.pieces, u, z]] w (Gives w (.int .i64 (segN d.blocks : Int))) := by
  obtain ⟨A1, c1, rfl, hc, hm'⟩ := hda.blocks.form
  have hb0 : Below w.heap.size w (w.alloc (.cells #[.int .i64 d.law.piece, .int .i64 d.law.drive, .int .i64 d.law.spread, .int .i64 d.law.brk, .int .i64 d.law.on, .int .i64 d.law.off, .int .i64 d.law.least, .int .i64 d.law.pieces, .slice A1 d.blocks.length c1, z] 63)) := (Below.refl _ _).alloc (Nat.le_refl _) _
  have Hle := Lib.hid (segN_take_le hm.block)
  have hn := hm.blocks
  have hv1 := hda.blocks.below hb0
  go_enter Tryz.func52, Tryz.ntmps52
  go_wp2
  go_loop [3, 4] (fun s j => ∃ k : Nat, k ≤ d.blocks.length ∧ j = .int .i64 k ∧ s = .int .i64 (segN (d.blocks.take k) : Int)) (fun s j => d.blocks.length - (intOf j).toNat)
  case atStart => exact ⟨0, by omega, rfl, rfl⟩
  case round =>
    obtain ⟨k, hk, rfl, rfl⟩ := hrel
    by_cases hlt : k < d.blocks.length
    · obtain ⟨b, o, l, u, rfl, hs, c0, hr, hblt⟩ := hv1.at_ hlt
      obtain ⟨A2, c2, rfl, hc2, hm2⟩ := hr.form
      have h1 := Hle.out k
      have hs2 : (segN (d.blocks.take (k + 1)) : Int) = segN (d.blocks.take k) + if 1 < (l.length : Int) then (l.length : Int) - 1 else 0 := by
        rw [segN_take_succ hs]
        split <;> omega
      have hl2 := hm.block k l hs
      have Hs2 := Lib.hid hs2
      clear hs hs2
      generalize segN (d.blocks.take k) = S at *
      go_wp2
      go_round
      case rel => exact ⟨k + 1, by omega, by go_num, by rw [Hs2.out]⟩
      case measure => simp [intOf]; omega
    · obtain rfl : k = d.blocks.length := by omega
      rw [List.take_length]
      go_wp2
      go_ret
      exact ⟨rfl, hb0⟩
end Go.Proofs.YtckgapeednokjaaGreat
namespace Go.Proofs.YtckgapeednokjaaGreat
open Go Go.Proofs Go.RowKit

/-! ### Spot -/
theorem spot_next {bl : List (List Rel)} {s b i k : Nat} {l : List Rel} (h : (segs bl)[s]? = some (b, i)) (hk : k < b) (hl : bl[k]? = some l) : offB bl (k + 1) ≤ s ∧ offB bl (k + 1) = offB bl k + (l.length - 1) := by
  obtain ⟨h1, h2, h3⟩ := segs_get.1 h
  have e := offB_succ' (bl := bl) (c := k) (by omega)
  rw [hl, Option.getD_some] at e
  have := offB_mono (bl := bl) (c := k + 1) (e := b) (by omega) (by omega)
  omega
end Go.Proofs.YtckgapeednokjaaGreat
