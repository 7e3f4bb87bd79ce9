import Derived.Test.YtobeffjdfhkjeaaW4
set_option linter.unusedVariables false
set_option linter.unusedSimpArgs false
namespace Go.Proofs.Ytobeffjdfhkjeaa
open Go Go.RowKit

/-! ### A region that draws its order, in phases: reads that may come first, then what is forced, and again -/
section
variable {P : Program} {ops : Array Oper} {Q : Exit → Act → World → Prop} {md : Region.Mode} {S : World → Prop} {kp : Nat → Bool}

def seqKB (md : Region.Mode) (ops : Array Oper) : List Nat → Array Bool → Bool
  | [], _ => true
  | i :: is, listed => decide (Region.ready md ops listed = [i]) && seqKB md ops is (listed.setIfInBounds i true)

def wpSeqK (P : Program) (ops : Array Oper) (Q : Exit → Act → World → Prop) (S : World → Prop) (kp : Nat → Bool) (K : Act → World → Prop) : List (Nat × Oper) → Act → World → Prop
  | [], a, w => K a w
  | (i, o) :: rest, a, w => if Region.wanted o (yielded ops a.tmps) then o.wp P a w (fun a' w' => (kp i = true → S w') ∧ wpSeqK P ops Q S kp K rest a' w') Q ∨ (o.asks P a w ∧ LetsOut Q)
    else (kp i = true → S w) ∧ wpSeqK P ops Q S kp K rest (a.put o.dst undef) w

theorem wpAnyF_of_seqK {m : Nat} : ∀ (is : List Nat) (listed : Array Bool) (a : Act) (w : World), (∀ i ∈ is, i < ops.size) → seqKB md ops is listed = true →
    wpSeqK P ops Q S kp (fun a' w' => wpAnyF P md ops Q S kp m (listAll is listed) a' w') (pickN ops.toList is) a w → wpAnyF P md ops Q S kp (is.length + m) listed a w
  | [], listed, a, w, hlt, hB, h => by simpa [pickN, wpSeqK, listAll] using h
  | k :: is, listed, a, w, hlt, hB, h => by
    have hk := hlt k (by simp)
    have h0 : ops[k]? = some ops[k] := Array.getElem?_eq_getElem hk
    have hp : pickN ops.toList (k :: is) = (k, ops[k]) :: pickN ops.toList is := by
      unfold pickN
      rw [List.filterMap_cons]
      simp [h0]
    rw [hp] at h
    simp only [seqKB, Bool.and_eq_true, decide_eq_true_eq] at hB
    rw [show (k :: is).length + m = (is.length + m) + 1 from by simp only [List.length_cons]; omega]
    refine ⟨fun h1 => (by rw [hB.1] at h1; cases h1), fun j hj => ?_⟩
    rw [hB.1] at hj
    obtain rfl : j = k := by simpa using hj
    have hw : wpOp P ops Q j (fun a' w' => (kp j = true → S w') ∧ wpSeqK P ops Q S kp (fun a' w' => wpAnyF P md ops Q S kp m (listAll is (listed.setIfInBounds j true)) a' w') (pickN ops.toList is) a' w') a w := by
      unfold wpOp
      simp only [h0]
      unfold wpSeqK at h
      split
      · rename_i hw
        rw [if_pos hw] at h
        exact h
      · rename_i hw
        rw [if_neg hw] at h
        exact h
    exact wpOp_mono (fun a' w' h' => ⟨h'.1, wpAnyF_of_seqK is _ a' w' (fun i hi => hlt i (by simp [hi])) hB.2 h'.2⟩) hw

theorem wpSeqK_nil {K : Act → World → Prop} {a : Act} {w : World} (h : K a w) : wpSeqK P ops Q S kp K [] a w := h
theorem wpSeqK_step {K : Act → World → Prop} {i : Nat} {o : Oper} {rest : List (Nat × Oper)} {a : Act} {w : World}
    (h : ∀ K' : Act → World → Prop, Hid (∀ a w, (kp i = true → S w) → wpSeqK P ops Q S kp K rest a w → K' a w) → if Region.wanted o (yielded ops a.tmps) = true then Oper.wp P o a w K' Q else K' (a.put o.dst undef) w) :
    wpSeqK P ops Q S kp K ((i, o) :: rest) a w := by
  have := h (fun a' w' => (kp i = true → S w') ∧ wpSeqK P ops Q S kp K rest a' w') (fun a w h1 h2 => ⟨h1, h2⟩)
  unfold wpSeqK
  split
  · rename_i hw; rw [if_pos hw] at this; exact .inl this
  · rename_i hw; rw [if_neg hw] at this; exact this

/-- The phases. -/
def wpPh (P : Program) (ops : Array Oper) (Q : Exit → Act → World → Prop) (S : World → Prop) (kp : Nat → Bool) : List (List Nat × List Nat) → Act → World → Prop
  | [], a, w => Q .normal a w
  | (fs, rs) :: r, a, w => S w ∧ wpQuiet P ops (fun w' => ∃ x : Meets S, w' = x.val) (fun a' => wpSeqK P ops Q S kp (wpPh P ops Q S kp r) (pickN ops.toList rs) a' w) (pick ops.toList fs) a

def phB (md : Region.Mode) (ops : Array Oper) (kp : Nat → Bool) : List (List Nat × List Nat) → Array Bool → Bool
  | [], listed => (Region.ready md ops listed).isEmpty
  | (fs, rs) :: r, listed => frontPickB md ops kp fs listed && (seqKB md ops rs (listAll fs listed) && ((rs.all fun i => decide (i < ops.size)) && phB md ops kp r (listAll rs (listAll fs listed))))

def phLen : List (List Nat × List Nat) → Nat
  | [] => 0
  | (fs, rs) :: r => fs.length + (rs.length + phLen r)

theorem wpSeqK_mono {K K' : Act → World → Prop} (hK : ∀ a w, K a w → K' a w) : ∀ (l : List (Nat × Oper)) (a : Act) (w : World), wpSeqK P ops Q S kp K l a w → wpSeqK P ops Q S kp K' l a w
  | [], a, w, h => hK a w h
  | (i, o) :: l, a, w, h => by
    unfold wpSeqK at *
    split
    · rename_i hw
      rw [if_pos hw] at h
      rcases h with h | h
      · exact .inl (Oper.wp_mono (fun a' w' h' => ⟨h'.1, wpSeqK_mono hK l a' w' h'.2⟩) h)
      · exact .inr h
    · rename_i hw
      rw [if_neg hw] at h
      exact ⟨h.1, wpSeqK_mono hK l _ w h.2⟩

theorem wpAnyF_ph (hs : Region.noSelect ops = true) (hQ : ∀ c a d v w, Q (.panic c) (a.put d v) w → Q (.panic c) a w) : ∀ (l : List (List Nat × List Nat)) (listed : Array Bool) (a : Act) (w : World), phB md ops kp l listed = true →
    wpPh P ops Q S kp l a w → wpAnyF P md ops Q S kp (phLen l) listed a w
  | [], listed, a, w, hB, h => ⟨by simpa [phB] using hB, h⟩
  | (fs, rs) :: r, listed, a, w, hB, h => by
    simp only [phB, Bool.and_eq_true] at hB
    obtain ⟨h1, h2, h3, h4⟩ := hB
    obtain ⟨hS, hq⟩ := h
    refine wpAnyF_pick hs hQ (rs.length + phLen r) fs listed a w h1 hS (wpQuiet_mono (fun a' h' => ?_) _ _ hq)
    refine wpAnyF_of_seqK rs _ a' w (fun i hi => by have := List.all_eq_true.1 h3 i hi; simpa using this) h2 ?_
    exact wpSeqK_mono (fun a w h => wpAnyF_ph hs hQ r _ a w h4 h) _ _ _ h'

/-- **A region that draws its order, in phases.** -/
theorem wp_region_ph {id : Nat} {a : Act} {w : World} {l : List Oper} (ph : List (List Nat × List Nat)) (kp : Nat → Bool) (S : World → Prop) (hm : P.follows .mixedOrders = true)
    (hB : (Region.noSelect l.toArray && (phB .any l.toArray kp ph (Array.replicate l.toArray.size false) && decide (phLen ph = l.length))) = true)
    (hQ : ∀ c a d v w, Q (.panic c) (a.put d v) w → Q (.panic c) a w)
    (h : wpPh P l.toArray Q S kp ph a w.drew) : (Code.region id l.toArray true).wp P Q a w := by
  simp only [Bool.and_eq_true, decide_eq_true_eq] at hB
  obtain ⟨h1, h2, h3⟩ := hB
  refine wp_region_front kp S hm ?_
  have := wpAnyF_ph (P := P) (Q := Q) (S := S) h1 hQ ph (Array.replicate l.toArray.size false) a w.drew h2 h
  rw [h3] at this
  simpa using this

theorem wpPh_nil {a : Act} {w : World} (h : Q .normal a w) : wpPh P ops Q S kp [] a w := h
theorem wpPh_cons {fs rs : List Nat} {r : List (List Nat × List Nat)} {a : Act} {w : World} (hS : S w)
    (h : Nonempty (Meets S) → wpQuiet P ops (fun w' => ∃ x : Meets S, w' = x.val) (fun a' => wpSeqK P ops Q S kp (wpPh P ops Q S kp r) (pickN ops.toList rs) a' w) (pick ops.toList fs) a) : wpPh P ops Q S kp ((fs, rs) :: r) a w :=
  ⟨hS, h ⟨⟨w, hS⟩⟩⟩
end
end Go.Proofs.Ytobeffjdfhkjeaa
