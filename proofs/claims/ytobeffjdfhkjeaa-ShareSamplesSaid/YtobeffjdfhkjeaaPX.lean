import Derived.Test.YtobeffjdfhkjeaaSd
import Derived.Test.YtobeffjdfhkjeaaNe
import Derived.Test.YtobeffjdfhkjeaaWd
import Derived.Test.YtobeffjdfhkjeaaDb
set_option linter.unusedVariables false
set_option linter.unusedSimpArgs false
namespace Go.Proofs.Ytobeffjdfhkjeaa
open Go Go.Proofs Go.RowKit

/-! ### Samples: plain -/
theorem needL_length (coins : Int) (ss : List Strat) : (needL coins ss).length = ss.length := by simp [needL]
theorem needL_get {coins : Int} {ss : List Strat} {k : Nat} {s : Strat} (h : ss[k]? = some s) : (needL coins ss)[k]? = some (needN s coins : Int) := by simp [needL, h]

/-- The strata of a valid pool. -/
def AllOk (m : Nat) (ss : List Strat) : Prop := ∀ (j : Nat) (s : Strat), ss[j]? = some s → stratB (m : Int) s = true

/-- Numbers of samples, each enough. -/
structure Enough (ss : List Strat) (coins : Int) (ms : List Int) : Prop where
  len : ms.length = ss.length
  one : ∀ (j : Nat) (s : Strat), ss[j]? = some s → ∃ x : Nat, ms[j]? = some (x : Int) ∧ (x : Int) ≤ s.hi - sumL s.seen ∧ narrowB s coins x = true

theorem right_of {ss : List Strat} {coins : Int} {ms : List Int} (h : Enough ss coins ms) : rightB ss coins ms ss.length = true := by
  have key : ∀ k, k ≤ ss.length → provK ss coins ms k = true := by
    intro k
    induction k with
    | zero => intro _; rfl
    | succ k ih =>
      intro hk
      obtain ⟨x, hx, hx1, hx2⟩ := h.one k ss[k] (List.getElem?_eq_getElem (by omega))
      rw [provK_succ, ih (by omega), List.getElem?_eq_getElem (by omega), hx]
      simp only [Option.getD_some, Bool.true_and, provE, Bool.and_eq_true]
      exact ⟨inB_iff.2 ⟨by omega, hx1⟩, by simpa using hx2⟩
  simp [rightB, h.len, key ss.length (Nat.le_refl _)]

theorem enough_need {m : Nat} {ss : List Strat} {coins : Int} (hok : AllOk m ss) (hm : 1 ≤ m) (h0 : 0 ≤ coins) : Enough ss coins (needL coins ss) :=
  ⟨needL_length _ _, fun j s hs => by
    have h := need_least (hok j s hs) (by omega) h0
    exact ⟨needN s coins, needL_get hs, h.2.2, h.1⟩⟩

theorem right_less {m : Nat} {ss : List Strat} {coins : Int} (hok : AllOk m ss) (hm : 1 ≤ m) (h0 : 0 ≤ coins) {k : Nat} {s : Strat} (hs : ss[k]? = some s) (hp : 0 < needN s coins) {ms : List Int} (hms : ms[k]? = some ((needN s coins : Int) - 1)) :
    rightB ss coins ms ss.length = false := by
  have hk := (List.getElem?_eq_some_iff.1 hs).1
  have h := need_least (hok k s hs) (by omega) h0
  have h1 : provK ss coins ms (k + 1) = false := by
    rw [provK_succ, hs, hms]
    have : ((needN s coins : Int) - 1).toNat = needN s coins - 1 := by omega
    simp [provE, this, h.2.1 (needN s coins - 1) (by omega)]
  simp [rightB, provK_stop h1 (by omega : k + 1 ≤ ss.length)]

theorem need_anti {m : Nat} {s : Strat} {a b : Int} (hs : stratB (m : Int) s = true) (hm : 1 ≤ m) (h0 : 0 ≤ a) (hab : a ≤ b) : needN s b ≤ needN s a := by
  have h1 := need_least (coins := a) hs (by omega) h0
  have h2 := need_least (coins := b) hs (by omega) (by omega)
  refine Nat.not_lt.1 fun h => ?_
  have := h2.2.1 _ h
  have h3 : narrowB s b (needN s a) = true := narrowB_iff.2 fun c hc k hk => by
    have := narrowB_iff.1 h1.1 c hc k hk
    omega
  rw [h3] at this
  cases this

/-- The greater numbers. -/
def upN (ws : List Int) (coins : Int) (k : Nat) (s : Strat) : Int := needN s coins + wordI ws (k + 5) % (s.hi - sumL s.seen - needN s coins + 1)
def upF (ss : List Strat) (ws : List Int) (coins : Int) (j c : Nat) : Int := if c < j then upN ws coins c (ss[c]?.getD Strat.none) else needN (ss[c]?.getD Strat.none) coins
def upL (ss : List Strat) (ws : List Int) (coins : Int) : List Int := (List.range ss.length).map (upF ss ws coins ss.length)
theorem upL_length (ss : List Strat) (ws : List Int) (coins : Int) : (upL ss ws coins).length = ss.length := by simp [upL]
theorem upN_bd {m : Nat} {s : Strat} {coins : Int} {ws : List Int} (hw : WordsOk ws) (hs : stratB (m : Int) s = true) (hm : 1 ≤ m) (h0 : 0 ≤ coins) (k : Nat) : (needN s coins : Int) ≤ upN ws coins k s ∧ upN ws coins k s ≤ s.hi - sumL s.seen := by
  have h := need_least hs (by omega) h0
  unfold upN
  have h1 := Int.emod_nonneg (wordI ws (k + 5)) (by omega : s.hi - sumL s.seen - needN s coins + 1 ≠ 0)
  have h2 := Int.emod_lt_of_pos (wordI ws (k + 5)) (by omega : 0 < s.hi - sumL s.seen - needN s coins + 1)
  omega
theorem enough_up {m : Nat} {ss : List Strat} {coins : Int} {ws : List Int} (hw : WordsOk ws) (hok : AllOk m ss) (hm : 1 ≤ m) (h0 : 0 ≤ coins) : Enough ss coins (upL ss ws coins) :=
  ⟨upL_length _ _ _, fun j s hs => by
    have hj := (List.getElem?_eq_some_iff.1 hs).1
    have h := need_least (hok j s hs) (by omega) h0
    have hb := upN_bd hw (hok j s hs) hm h0 j
    refine ⟨(upN ws coins j s).toNat, ?_, by omega, narrow_mono (hok j s hs) (by omega) h.1⟩
    unfold upL
    rw [List.getElem?_map, List.getElem?_range hj]
    simp only [Option.map_some, upF, if_pos hj, hs, Option.getD_some]
    congr 1
    omega⟩

theorem needL_row (ss : List Strat) (ws : List Int) (coins : Int) : (needL coins ss).map (Value.int .i64) = rowF ss.length (upF ss ws coins 0) := by
  rw [rowF_ints, needL_length]
  refine rowF_congr fun c hc => ?_
  rw [needL_get (List.getElem?_eq_getElem hc)]
  simp [upF, List.getElem?_eq_getElem hc]
theorem upL_row (ss : List Strat) (ws : List Int) (coins : Int) : rowF ss.length (upF ss ws coins ss.length) = (upL ss ws coins).map (Value.int .i64) := by
  rw [rowF_map]; rfl
theorem upF_step {ss : List Strat} {ws : List Int} {coins : Int} {k : Nat} {s : Strat} (hs : ss[k]? = some s) (c : Nat) : (if c = k then upN ws coins k s else upF ss ws coins k c) = upF ss ws coins (k + 1) c := by
  unfold upF
  by_cases e : c = k
  · subst e
    rw [if_pos rfl, if_pos (by omega), hs]
    rfl
  · rw [if_neg e]
    by_cases e2 : c < k
    · rw [if_pos e2, if_pos (by omega)]
    · rw [if_neg e2, if_neg (by omega)]

theorem spread_fault {m : Nat} {ss : List Strat} {coins : Int} {ms ws : List Int} (hf : faultI m ss = 0) (he : Enough ss coins ms) : faultI m (spreadL m ss ms ws) = 0 := by
  obtain ⟨h8, h1, h5, hval⟩ := fault_zero hf
  refine fault_ok (by rw [spreadL_len]; omega) (inB_iff.2 ⟨h1, h5⟩) fun j s hj hs => ?_
  rw [spreadL_len] at hj
  have h0 : ss[j]? = some ss[j] := List.getElem?_eq_getElem hj
  rw [spreadL_get h0] at hs
  cases hs
  obtain ⟨x, hx, hx1, hx2⟩ := he.one j _ h0
  have hst := hval j _ h0
  have hn := (stratB_iff.1 hst).2.2.2.2.1
  unfold spreadS
  rw [hx]
  exact with_strat hst (spread_more (by omega) (by omega) ws j _) hx1

theorem spread_width {m : Nat} {ss : List Strat} {coins : Int} {ms ws : List Int} (hok : AllOk m ss) (hm : 1 ≤ m) (h0 : 0 ≤ coins) (he : Enough ss coins ms) : ∀ k, (widK (spreadL m ss ms ws) k).2 ≤ coins
  | 0 => h0
  | k + 1 => by
    have ih := spread_width hok hm h0 he (ws := ws) k
    have hw : widthS ((spreadL m ss ms ws)[k]?.getD Strat.none) ≤ coins := by
      cases e : ss[k]? with
      | none =>
        have : (spreadL m ss ms ws)[k]? = none := by
          rw [List.getElem?_eq_none_iff, spreadL_len]
          exact List.getElem?_eq_none_iff.1 e
        rw [this]
        simpa [widthS, wK, Strat.none] using h0
      | some s =>
        obtain ⟨x, hx, hx1, hx2⟩ := he.one k s e
        have hst := hok k s e
        have hn := (stratB_iff.1 hst).2.2.2.2.1
        rw [spreadL_get e, Option.getD_some]
        unfold spreadS
        rw [hx]
        have hM := spread_more (n := m) (s := s) (by omega) (by omega) ws k x
        refine (wK_le h0 _).2 fun c hc => ?_
        show (rangeAt (withS s (spreadRow m ws k x)) c).2 - (rangeAt (withS s (spreadRow m ws k x)) c).1 ≤ coins
        rw [with_width hM]
        have hc' : c < s.seen.length := by
          have : (withS s (spreadRow m ws k x)).seen.length = s.seen.length := plusL_len hM.len
          simpa [this] using hc
        have hb := spreadRow_bd (n := m) (by omega) ws k x c
        obtain ⟨y, hy⟩ : ∃ y : Nat, (spreadRow m ws k x)[c]?.getD 0 = y := ⟨((spreadRow m ws k x)[c]?.getD 0).toNat, by omega⟩
        rw [hy] at hb ⊢
        exact narrowB_iff.1 hx2 c hc' y (by omega)
    simp only [widK]
    split
    · exact hw
    · exact ih
end Go.Proofs.Ytobeffjdfhkjeaa
