import Derived.Test.YtckgapeednokjaaGreatE2
set_option linter.unusedVariables false
set_option linter.unusedSimpArgs false
namespace Go.Proofs.YtckgapeednokjaaGreat
open Go Go.Proofs Go.RowKit

/-! ### Blocks that are known whole -/
theorem nums_block {w : World} {g n : Nat} {l : List Int} {t : TypeId} {fr : Nat × Nat} (h : w.heap[g]? = some (.cells (l.map (.int .i64)).toArray t fr)) (hn : l.length = n) (hl : l.length ≤ maxLen) : NumsAt .i64 w (.slice (some ⟨g, 0, none⟩) n n) l := by
  subst hn
  refine ⟨_, _, rfl, Nat.le_refl _, hl, fun _ => ⟨g, 0, rfl, fun k hk => ?_⟩⟩
  rw [Nat.zero_add]
  unfold World.cell?
  simp only [h]
  rw [List.getElem?_toArray, List.getElem?_map, List.getElem?_eq_getElem hk]
  rfl
theorem block_own {w : World} {base g m : Nat} {e : TypeId} {xs : List Value} (h : w.ownsRow base e 1 (.slice (some ⟨g, 0, none⟩) m m) m xs) : w.heap[g]? = some (.cells xs.toArray e (0, 0)) := by
  rcases h.2 with ⟨h1, _⟩ | ⟨g', cap, cur, h1, _, hg, hnc, hm, hs, ht⟩
  · cases h1
  · cases h1
    rw [hg]
    have hl := h.1
    have e1 : cur.toList = xs := by
      rw [← ht, List.take_of_length_le]
      rw [Array.length_toList, hs]
      exact Nat.le_refl _
    rw [← e1]
/-! ### What Best gives, in one form -/
def bestE (d : DDay) : Int := if (bestV d).can then 0 else 9
def bestLen (d : DDay) : Nat := if (bestV d).can then (bestP d).length else 0
def bestPay (d : DDay) : Int := if (bestV d).can then (bestV d).pay else 0
def bestR (d : DDay) : List (List Nat) := if (bestV d).can then bestP d else []
def GivesBest1 (d : DDay) (w : World) (e : Ending) (w' : World) : Prop :=
  ∃ A c, e = .returned (.tuple #[.slice A (bestLen d) c, .int .i64 (bestPay d), .int .i64 (bestE d)]) ∧ RowsAt w' (.slice A (bestLen d) c) ((bestR d).map natsI) ∧ Below w.heap.size w w'
theorem Best1_any (d : DDay) (u z : Value) (w : World) (hda : DayAt w u z d) (hm : Mild d) (hf : (faultD d != 0) = false) :
    Calls Tryz.prog 22 #[.agg #[.int .i64 d.law.piece, .int .i64 d.law.drive, .int .i64 d.law.spread, .int .i64 d.law.brk, .int .i64 d.law.on, .int .i64 d.law.off, .int .i64 d.law.least, .int .i64 d.law.pieces, u, z]] w (GivesBest1 d w) :=
  (Best_any d u z w hda hm).mono fun e w' h => by
    obtain ⟨hb, _, h2, h3⟩ := h
    unfold GivesBest1 bestLen bestPay bestE bestR
    cases hc : (bestV d).can with
    | true =>
      obtain ⟨A, c, he, hr⟩ := h3 hf hc
      exact ⟨A, c, he, hr, hb⟩
    | false => exact ⟨none, 0, h2 hf hc, ⟨none, 0, rfl, by simp, by simp [maxLen], by simp⟩, hb⟩
/-! ### Marks -/
theorem setL_bits {n X : Nat} (hX : X < 2 ^ n) (h0 : X ≠ 0) : setL n X = bitsL n X := by
  unfold setL
  rw [if_neg]
  intro h
  have := mask_bitsL hX
  rw [h] at this
  simp [maskL] at this
  exact h0 this.symm
theorem has_bitsL {n X s : Nat} (hs : s < n) : decide ((s : Int) ∈ natsI (bitsL n X)) = X.testBit s := by
  rw [Bool.eq_iff_iff, decide_eq_true_iff, mem_natsI, mem_bitsL]
  simp [hs]
theorem fitsTo_succ (d : DDay) (x s : Nat) (M : List Nat) (k : Nat) : fitsTo d x s M (k + 1) = (fitsTo d x s M k && (k == 0 || (!k.testBit s || (!legalX d k || M.all fun j => !k.testBit j)))) := by
  unfold fitsTo
  rw [List.range_succ, List.all_append]
  simp [Bool.and_assoc]
theorem fitsTo_le {d : DDay} {x s k n : Nat} {M : List Nat} (h : fitsTo d x s M k = false) (hk : k ≤ n) : fitsTo d x s M n = false := by
  induction n with
  | zero => have : k = 0 := by omega
            rw [← this]; exact h
  | succ n ih =>
    by_cases e : k = n + 1
    · rw [← e]; exact h
    · rw [fitsTo_succ, ih (by omega)]
      rfl
def freeTo (M : List Nat) (X j : Nat) : Bool := (List.range j).all fun k => !decide (k ∈ M) || !X.testBit k
theorem freeTo_succ (M : List Nat) (X j : Nat) : freeTo M X (j + 1) = (freeTo M X j && (!decide (j ∈ M) || !X.testBit j)) := by
  unfold freeTo
  rw [List.range_succ, List.all_append]
  simp
theorem freeTo_all {M : List Nat} {X s : Nat} (h : ∀ k ∈ M, k < s) : freeTo M X s = M.all fun j => !X.testBit j := by
  unfold freeTo
  rw [Bool.eq_iff_iff, List.all_eq_true, List.all_eq_true]
  constructor
  · intro h1 k hk
    have := h1 k (List.mem_range.2 (h k hk))
    simpa [hk] using this
  · intro h1 k hk
    by_cases hm : k ∈ M
    · have := h1 k hm
      simpa [hm] using this
    · simp [hm]
theorem apart_len (d : DDay) (x k : Nat) : (apartL d x k).length = segN d.blocks := by simp [apartL]
theorem apart_zero (d : DDay) (x : Nat) : apartL d x 0 = List.replicate (segN d.blocks) 0 := by
  unfold apartL markL
  apply List.ext_getElem
  · simp
  · intro i h1 h2
    simp
theorem mark_step (d : DDay) (x k : Nat) : markL d x (k + 1) = markL d x k ++ if fitsS d x k (markL d x k) then [k] else [] := rfl
theorem apart_step {d : DDay} {x k : Nat} (hf : fitsS d x k (markL d x k) = true) : apartL d x (k + 1) = (apartL d x k).set k 1000 := by
  apply List.ext_getElem?
  intro i
  rw [List.getElem?_set, apart_len]
  unfold apartL
  rw [List.getElem?_map, List.getElem?_map]
  by_cases hi : i < segN d.blocks
  · rw [List.getElem?_range hi]
    simp only [Option.map_some]
    rw [mark_step, hf]
    by_cases e : k = i
    · subst e
      simp [hi]
    · rw [if_neg e]
      simp only [if_true, List.mem_append, List.mem_singleton, Ne.symm e, or_false]
  · rw [List.getElem?_eq_none (by simpa using hi)]
    simp only [Option.map_none]
    split
    · rename_i e; subst e; simp [hi]
    · rfl
theorem apart_same {d : DDay} {x k : Nat} (hf : fitsS d x k (markL d x k) = false) : apartL d x (k + 1) = apartL d x k := by
  unfold apartL
  rw [mark_step, hf]
  simp
end Go.Proofs.YtckgapeednokjaaGreat
