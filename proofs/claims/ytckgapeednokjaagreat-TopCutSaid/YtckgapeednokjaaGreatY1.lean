import Derived.Test.YtckgapeednokjaaGreatE3
import Derived.Test.YtckgapeednokjaaGreatD10
import Derived.Deep.CutRange
import Derived.Deep.Cut
set_option linter.unusedVariables false
set_option linter.unusedSimpArgs false
namespace Go.Proofs.YtckgapeednokjaaGreat
open Go Go.Proofs Go.RowKit

/-! ### Days that are changed -/
/-- Slices that read as these blocks, in whatever memory. -/
def BlocksIn (w : World) (us : List Value) (bl : List (List Rel)) : Prop := us.length = bl.length ∧ ∀ (j : Nat) (l : List Rel), bl[j]? = some l → ∃ u, us[j]? = some u ∧ RelsAt w u l
theorem BlocksIn.below {w w' : World} {us : List Value} {bl : List (List Rel)} (h : BlocksIn w us bl) (hb : Below w.heap.size w w') : BlocksIn w' us bl :=
  ⟨h.1, fun j l hl => by obtain ⟨u, h1, h2⟩ := h.2 j l hl; exact ⟨u, h1, h2.below hb⟩⟩
theorem BlocksIn.append {w : World} {us vs : List Value} {a b : List (List Rel)} (h : BlocksIn w us a) (k : BlocksIn w vs b) : BlocksIn w (us ++ vs) (a ++ b) := by
  refine ⟨by rw [List.length_append, List.length_append, h.1, k.1], fun j l hl => ?_⟩
  rcases Nat.lt_or_ge j a.length with hj | hj
  · rw [List.getElem?_append_left hj] at hl
    obtain ⟨u, h1, h2⟩ := h.2 j l hl
    exact ⟨u, by rw [List.getElem?_append_left (by rw [h.1]; exact hj)]; exact h1, h2⟩
  · rw [List.getElem?_append_right hj] at hl
    obtain ⟨u, h1, h2⟩ := k.2 _ l hl
    exact ⟨u, by rw [List.getElem?_append_right (by rw [h.1]; exact hj), h.1]; exact h1, h2⟩
theorem BlocksIn.drop {w : World} {us : List Value} {bl : List (List Rel)} (h : BlocksIn w us bl) (t : Nat) : BlocksIn w (us.drop t) (bl.drop t) := by
  refine ⟨by rw [List.length_drop, List.length_drop, h.1], fun j l hl => ?_⟩
  rw [List.getElem?_drop] at hl
  obtain ⟨u, h1, h2⟩ := h.2 _ l hl
  exact ⟨u, by rw [List.getElem?_drop]; exact h1, h2⟩
theorem BlocksIn.take {w : World} {us : List Value} {bl : List (List Rel)} (h : BlocksIn w us bl) (t : Nat) : BlocksIn w (us.take t) (bl.take t) := by
  refine ⟨by rw [List.length_take, List.length_take, h.1], fun j l hl => ?_⟩
  rw [List.getElem?_take] at hl
  split at hl
  · rename_i hj
    obtain ⟨u, h1, h2⟩ := h.2 _ l hl
    exact ⟨u, by rw [List.getElem?_take, if_pos hj]; exact h1, h2⟩
  · cases hl
theorem BlocksIn.set {w : World} {us : List Value} {bl : List (List Rel)} (h : BlocksIn w us bl) {b : Nat} {u : Value} {l : List Rel} (hu : RelsAt w u l) : BlocksIn w (us.set b u) (bl.set b l) := by
  refine ⟨by simp [h.1], fun j x hx => ?_⟩
  rw [List.getElem?_set] at hx
  by_cases e : b = j
  · rw [if_pos e] at hx
    split at hx
    · cases hx
      rename_i hj
      exact ⟨u, by rw [List.getElem?_set, if_pos e, if_pos (by rw [h.1]; exact hj)], hu⟩
    · cases hx
  · rw [if_neg e] at hx
    obtain ⟨y, h1, h2⟩ := h.2 j x hx
    exact ⟨y, by rw [List.getElem?_set, if_neg e]; exact h1, h2⟩
theorem BlocksIn.one {w : World} {us : List Value} {bl : List (List Rel)} (h : BlocksIn w us bl) : ∀ u ∈ us, u.oneCell' = true := fun u hu => by
  obtain ⟨j, hj, rfl⟩ := List.getElem_of_mem hu
  obtain ⟨x, h1, h2⟩ := h.2 j (bl[j]'(by rw [← h.1]; exact hj)) (List.getElem?_eq_getElem _)
  rw [List.getElem?_eq_getElem hj] at h1
  cases h1
  obtain ⟨A, c, e, _⟩ := h2.form
  rw [e]
  rfl
theorem each_list {α : Type} {n : Nat} {p : Nat → α → Prop} (h : ∀ i, i < n → ∃ a, p i a) : ∃ l : List α, l.length = n ∧ ∀ i a, l[i]? = some a → p i a := by
  induction n with
  | zero => exact ⟨[], rfl, by simp⟩
  | succ n ih =>
    obtain ⟨l, h1, h2⟩ := ih fun i hi => h i (by omega)
    obtain ⟨a, ha⟩ := h n (by omega)
    refine ⟨l ++ [a], by simp [h1], fun i b hb => ?_⟩
    rw [List.getElem?_append] at hb
    split at hb
    · exact h2 i b hb
    · rename_i hi
      have hlt := (List.getElem?_eq_some_iff.1 hb).1
      simp at hlt
      obtain rfl : i = n := by omega
      rw [h1] at hb
      simp at hb
      subst hb
      exact ha
theorem blocks_src {w : World} {A : Option Addr} {n c : Nat} {bl : List (List Rel)} (h : BlocksAt w (.slice A n c) bl) (hp : 0 < n) : ∃ b o us, A = some ⟨b, o, none⟩ ∧ b < w.heap.size ∧ us.length = n ∧ (∀ j u, us[j]? = some u → w.cell? ⟨b, o + j, none⟩ = some u) ∧ BlocksIn w us bl := by
  obtain ⟨A', c', e, h1, h2, h3⟩ := h
  cases e
  obtain ⟨b, o, rfl, hc⟩ := h3 hp
  obtain ⟨us, hus, hq⟩ := each_list (n := bl.length) (p := fun k u => w.cell? ⟨b, o + k, none⟩ = some u ∧ ∀ l, bl[k]? = some l → RelsAt w u l) (fun k hk => by
    obtain ⟨u, h0, h1⟩ := hc k _ (List.getElem?_eq_getElem hk)
    refine ⟨u, h0, fun l hl => ?_⟩
    rw [List.getElem?_eq_getElem hk] at hl
    cases hl
    exact h1)
  refine ⟨b, o, us, rfl, ?_, hus, fun j u hu => (hq j u hu).1, hus, fun j l hl => ?_⟩
  · obtain ⟨u, h0, _⟩ := hc 0 _ (List.getElem?_eq_getElem hp)
    exact World.block_lt_of_cell? _ _ h0
  · have hj := (List.getElem?_eq_some_iff.1 hl).1
    have hju : j < us.length := by omega
    exact ⟨_, List.getElem?_eq_getElem hju, (hq j _ (List.getElem?_eq_getElem hju)).2 l hl⟩
theorem blocks_of_in {w : World} {base : Nat} {e : TypeId} {v : Value} {n : Nat} {us : List Value} {bl : List (List Rel)} (h : w.ownsRow base e 1 v n us) (hr : BlocksIn w us bl) : BlocksAt w v bl := by
  have hn : bl.length = n := by rw [← hr.1]; simpa using h.1
  rcases h.2 with ⟨rfl, h0⟩ | ⟨g, cap, cur, rfl, _, hg, hc, hm, hs, ht⟩
  · have : bl = [] := List.eq_nil_of_length_eq_zero (by omega)
    subst this
    exact ⟨none, 0, rfl, by simp, by simp [maxLen], by simp⟩
  · subst hn
    refine ⟨_, cap, rfl, hc, hm, fun hp => ⟨g, 0, rfl, fun k l hl => ?_⟩⟩
    obtain ⟨u, h1, h2⟩ := hr.2 k l hl
    have hk := (List.getElem?_eq_some_iff.1 hl).1
    refine ⟨u, ?_, h2⟩
    rw [show 0 + k = k by omega, h.cellAt k (by omega), h1]
/-- Cells in a row, from an address on. -/
theorem src_cells {w : World} {b o n m : Nat} {us : List Value} (hl : us.length = n) (hc : ∀ j u, us[j]? = some u → w.cell? ⟨b, o + j, none⟩ = some u) (t : Nat) (ht : t + m ≤ n) : Src w (some ⟨b, o + t, none⟩) m 1 ((us.drop t).take m) :=
  ⟨by simp; omega, fun _ => ⟨_, rfl, fun j u hu => by
    rw [List.getElem?_take] at hu
    split at hu
    · rw [List.getElem?_drop] at hu
      rw [Addr.add_lit, Nat.add_assoc]
      exact hc _ u hu
    · cases hu⟩⟩
theorem Src.below {w w' : World} {A : Option Addr} {m size : Nat} {news : List Value} (h : Src w A m size news) (hb : Below w.heap.size w w') : Src w' A m size news :=
  ⟨h.1, fun h0 => by obtain ⟨ad, e, hc⟩ := h.2 h0; exact ⟨ad, e, fun j u hu => cell_below hb (hc j u hu)⟩⟩
theorem infoBlR : (Tryz.prog.info? 131).map (fun i => (i.zero, i.size, i.bytes)) = some (some (.slice none 0 0), 1, 24) := by kernel_rfl
theorem infoRelR : (Tryz.prog.info? 134).map (fun i => (i.zero, i.size, i.bytes)) = some (some (.agg #[.int .i64 0, .int .i64 0, .int .i64 0]), 3, 24) := by kernel_rfl
theorem best_eqs {d x : DDay} (h : (bestV x).can = (bestV d).can ∧ ((bestV d).can = true → (bestP x).length = (bestP d).length ∧ (bestV x).pay = (bestV d).pay)) : bestLen x = bestLen d ∧ bestPay x = bestPay d ∧ bestE x = bestE d := by
  unfold bestLen bestPay bestE
  rw [h.1]
  cases hc : (bestV d).can with
  | false => simp
  | true =>
    obtain ⟨h1, h2⟩ := h.2 hc
    simp [h1, h2]
def GivesBest3 (BL : Nat) (BP BE : Int) (w : World) (e : Ending) (w' : World) : Prop := ∃ A c, e = .returned (.tuple #[.slice A BL c, .int .i64 BP, .int .i64 BE]) ∧ Below w.heap.size w w'
theorem Best3_any (d : DDay) (u z : Value) (w : World) (hda : DayAt w u z d) (hm : Mild d) (hf : (faultD d != 0) = false) {BL : Nat} {BP BE : Int} (h1 : bestLen d = BL) (h2 : bestPay d = BP) (h3 : bestE d = BE) :
    Calls Tryz.prog 22 #[.agg #[.int .i64 d.law.piece, .int .i64 d.law.drive, .int .i64 d.law.spread, .int .i64 d.law.brk, .int .i64 d.law.on, .int .i64 d.law.off, .int .i64 d.law.least, .int .i64 d.law.pieces, u, z]] w (GivesBest3 BL BP BE w) :=
  (Best1_any d u z w hda hm hf).mono fun e w' ⟨A, c, he, _, hb⟩ => ⟨A, c, by rw [he, h1, h2, h3], hb⟩
theorem blocks_pos {d : DDay} (h : 0 < segN d.blocks) : 0 < d.blocks.length := by
  cases e : d.blocks with
  | nil => rw [e] at h; simp [segN] at h
  | cons a t => simp
end Go.Proofs.YtckgapeednokjaaGreat
